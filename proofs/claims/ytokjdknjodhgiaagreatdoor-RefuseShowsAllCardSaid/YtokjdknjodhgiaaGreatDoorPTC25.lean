import Derived.Test.YtokjdknjodhgiaaGreatDoorFxRX
import Derived.Test.YtokjdknjodhgiaaGreatDoorELow
import Derived.Sort.Walk0
import Derived.Lib.AppendZerosOnto
import Derived.Lib.SliceRun
import Derived.Lib.Walk
set_option linter.unusedVariables false
set_option linter.unusedSimpArgs false
set_option linter.unusedSectionVars false
open Int renaming toNat_natCast → yaa, natCast_zero → yaj, toNat → yax, natCast_nonneg → yaU, reduceToNat → yaZ, fdiv_eq_ediv_of_nonneg → yba, reduceLE → ybd, mul_zero → ybl, reduceLT → yby, toNat_of_nonneg → ybF
open Nat renaming le_refl → yab, zero_le → yaq, mul_one → yar, zero_add → yay, add_zero → ybf, min_eq_left → ybo, sub_self → ybN, le_trans → ybQ, shiftRight_eq_div_pow → ycb
open List renaming getElem_map → yac, replicate → yad, take_of_length_le → yae, getD_eq_getElem?_getD → yag, length_append → yah, take → yai, map → yak, getElem?_eq_getElem → yal, length_map → yam, range → yan, append_nil → yao, map_append → yap, length_take → yas, getElem_mem → yat, getElem?_cons_zero → yau, length_cons → yav, drop_of_length_le → yaz, set_cons_zero → yaA, length_nil → yaB, map_cons → yaC, ext_getElem → yaD, take_append_of_le_length → yaE, append_assoc → yaF, all_cons → yaG, mem_map → yaH, not_mem_nil → yaI, drop → yaJ, cons_append → yaL, map_take → yaN, mem_cons_self → yaO, mem_cons_of_mem → yaP, map_nil → yaQ, drop_zero → yaS, take_zero → yaV, mem_cons → yaW, length_replicate → yaX, all_nil → yaY, map_map → ybb, nil_append → ybe, drop_nil → ybg, range_succ → ybh, getElem_of_mem → ybi, take_succ_eq_append_getElem → ybj, mem_range → ybk, drop_append_of_le_length → ybp, length_drop → ybq, getElem?_append_right → ybr, set_append_right → ybs, getElem?_append_left → ybt, reverse_cons → ybv, reverse_nil → ybw, take_nil → ybx, length_range → ybz, flatten_append → ybB, range_zero → ybC, filter_nil → ybD, getElem_set → ybE, map_drop → ybH, map_set → ybI, getElem?_map → ybJ, drop_left → ybL, mem_append → ybM, replicate_succ → ybO, getElem_take → ybP, mem_of_getElem? → ybW, drop_replicate → ybX, set_eq_take_append_cons_drop → ycc, take_length_add_append → ycd, take_append_drop → yce, take_append_getElem → ycf, length_filter_le → ycg, getElem?_eq_none → ych, getElem_cons_zero → yci
open BitVec renaming ofInt → yaf, ofNat → yaT, ofNat_toNat → ybm, setWidth_eq → ybn, toNat_ofInt → ybA, toNat_ofNat → ybG, ofInt_natCast → ybY, eq_of_toNat_eq → ybZ, toNat_ushiftRight → yca
open Option renaming getD_some → yaw, map_some → ybu, map_none → ybU, getD_none → ybV
open Bool renaming and_self → yaK, false_eq_true → yaM, and_true → yaR, and_eq_true → ybc, not_true → ybS, not_false → ybT
open Array renaming replicate → ybK
open Option.some renaming injEq → ybR
namespace Go.Fx.E
open Go Go.Fx
abbrev W:=BitVec 32
abbrev w (x:W):V:=.v (.int .u32 (x.toNat:Int))
abbrev u8 (b:UInt8):V:=.v (.int .u8 (b.toNat:Int))
abbrev n64 (n:Nat):V:=.v (.int .u64 (n:Int))
theorem ofI (x:W):yaf 32 (x.toNat:Int)=x:=by
 rw [ybY,ybm,ybn]
theorem wrapN (n:Nat):IntKind.u32.wrap (n:Int)=((yaT 32 n).toNat:Int):=by
 rw [ybG]
 simp [IntKind.wrap,IntKind.bits,IntKind.signed]
theorem Pn (x:W):IntKind.u32.wrap (x.toNat:Int)=(x.toNat:Int):=by
 rw [wrapN,ybm,ybn]
section
variable {x y:W} {K:V→Prop}
theorem Fi:cO .add false .u32 (x.toNat:Int) (y.toNat:Int) K=K (w (x+y)):=by
 show K (.v (.int .u32 (IntKind.u32.wrap (x.toNat+y.toNat))))=_
 rw [←Int.natCast_add,wrapN,BitVec.ofNat_add,ybm,ybm,ybn,ybn]
theorem rF:cO .xor false .u32 (x.toNat:Int) (y.toNat:Int) K=K (w (x ^^^ y)):=by
 show K (.v (.int .u32 (IntKind.u32.wrap ((yaf 32 (x.toNat:Int) ^^^ yaf 32 (y.toNat:Int)).toNat:Int))))=_
 rw [ofI,ofI,Pn]
theorem Tv:cO .and false .u32 (x.toNat:Int) (y.toNat:Int) K=K (w (x &&& y)):=by
 show K (.v (.int .u32 (IntKind.u32.wrap ((yaf 32 (x.toNat:Int) &&& yaf 32 (y.toNat:Int)).toNat:Int))))=_
 rw [ofI,ofI,Pn]
theorem Yy:cO .or false .u32 (x.toNat:Int) (y.toNat:Int) K=K (w (x ||| y)):=by
 show K (.v (.int .u32 (IntKind.u32.wrap ((yaf 32 (x.toNat:Int) ||| yaf 32 (y.toNat:Int)).toNat:Int))))=_
 rw [ofI,ofI,Pn]
theorem acN:x ^^^ (4294967295#32) = ~~~x:=by
 rw [show (4294967295#32)=BitVec.allOnes 32 from rfl,BitVec.xor_allOnes]
theorem abZ:cO .xor false .u32 (if IntKind.signed .u32 then -1 else IntKind.max .u32) (x.toNat:Int) K=K (w (~~~x)):=by
 have h:(if IntKind.signed .u32 then -1 else IntKind.max .u32:Int)=((4294967295#32).toNat:Int):=rfl
 rw [h,rF,BitVec.xor_comm,acN]
theorem Tu {n:Nat} (hn:n≤32):cS .shl .u32 (x.toNat:Int) (n:Int) K=K (w (x <<< n)):=by
 have h:cS .shl .u32 (x.toNat:Int) (n:Int) K=(0≤(n:Int)∧K (.v (.int .u32 (IntKind.u32.wrap (x.toNat*2 ^ (min (n:Int).toNat 32)))))):=rfl
 rw [h,yaa,ybo hn]
 have e:((x.toNat:Int)*2 ^ n)=((x.toNat*2 ^ n:Nat):Int):=by simp
 rw [e,wrapN]
 have e2:yaT 32 (x.toNat*2 ^ n)=x <<< n:=by
  apply ybZ
  rw [ybG,BitVec.toNat_shiftLeft,Nat.shiftLeft_eq]
 rw [e2]
 exact propext ⟨fun h=>h.2,fun h=>⟨yaU n,h⟩⟩
theorem Fh {n:Nat} (hn:n≤32):cS .shr .u32 (x.toNat:Int) (n:Int) K=K (w (x >>> n)):=by
 have h:cS .shr .u32 (x.toNat:Int) (n:Int) K=(0≤(n:Int)∧K (.v (.int .u32 (Int.fdiv (x.toNat:Int) (2 ^ (min (n:Int).toNat 32)))))):=rfl
 rw [h,yaa,ybo hn]
 have e:Int.fdiv (x.toNat:Int) (2 ^ n)=((x >>> n).toNat:Int):=by
  have h2:(2:Int) ^ n=((2 ^ n:Nat):Int):=by simp
  rw [yca,ycb,h2,yba _ (yaU _),Int.natCast_ediv]
 rw [e]
 exact propext ⟨fun h=>h.2,fun h=>⟨yaU n,h⟩⟩
end
def rr (x:W) (n:Nat):W:=(x >>> n) ||| (x <<< (32-n))
theorem adN:∀ n:Fin 32,n.val≠0→IntKind.u64.wrap (-(n.val:Int))=18446744073709551616-n.val:=by decide
theorem adM:∀ n:Fin 32,n.val≠0→(IntKind.u64.wrap ((yaf 64 (18446744073709551616-(n.val:Int)) &&& yaf 64 31).toNat:Int))=((32-n.val:Nat):Int):=by decide
structure S8 where
 a:W
 b:W
 c:W
 d:W
 e:W
 f:W
 g:W
 h:W
def S8.l (s:S8):List W:=[s.a,s.b,s.c,s.d,s.e,s.f,s.g,s.h]
def S8.enc (s:S8):List V:=[w s.a,w s.b,w s.c,w s.d,w s.e,w s.f,w s.g,w s.h]
def S8.add (s t:S8):S8:=⟨s.a+t.a,s.b+t.b,s.c+t.c,s.d+t.d,s.e+t.e,s.f+t.f,s.g+t.g,s.h+t.h⟩
def t1 (s:S8) (k x:W):W:=s.h+(rr s.e 6 ^^^ rr s.e 11 ^^^ rr s.e 25)+((s.e &&& s.f) ^^^ (~~~s.e &&& s.g))+k+x
def t2 (s:S8):W:=(rr s.a 2 ^^^ rr s.a 13 ^^^ rr s.a 22)+((s.a &&& s.b) ^^^ (s.a &&& s.c) ^^^ (s.b &&& s.c))
def S8.rnd (s:S8) (k x:W):S8:=⟨t1 s k x+t2 s,s.a,s.b,s.c,s.d+t1 s k x,s.e,s.f,s.g⟩
def kW (i:Nat):W:=yaT 32 (Jv.getD i 0)
def vM (ws:Nat→W) (s:S8):Nat→S8
 | 0=>s
 | i+1=>(vM ws s i).rnd (kW i) (ws i)
def B32 (b:UInt8):W:=b.toBitVec.setWidth 32
theorem agZ (b:UInt8):(B32 b).toNat=b.toNat:=by
 unfold B32
 rw [BitVec.toNat_setWidth]
 have:b.toBitVec.toNat=b.toNat:=rfl
 rw [this]
 have:=b.toNat_lt
 omega
theorem abY {x:W} {b:UInt8} {K:V→Prop}:cO .or false .u32 (x.toNat:Int) (b.toNat:Int) K=K (w (x ||| B32 b)):=by
 rw [show (b.toNat:Int)=((B32 b).toNat:Int) by rw [agZ],Yy]
def word (b0 b1 b2 b3:UInt8):W:=(B32 b0 <<< 24) ||| (B32 b1 <<< 16) ||| (B32 b2 <<< 8) ||| B32 b3
theorem Uv (b0 b1 b2 b3:UInt8):(((((0#32 <<< 8 ||| B32 b0) <<< 8) ||| B32 b1) <<< 8 ||| B32 b2) <<< 8 ||| B32 b3)=word b0 b1 b2 b3:=by
 unfold word
 have h:(0#32 <<< 8 ||| B32 b0)=B32 b0:=by simp
 rw [h]
 simp only [BitVec.shiftLeft_or_distrib,←BitVec.shiftLeft_add]
def wn (l:List W) (i:Nat):W:=l.getD i 0
def next (ws:List W):W :=
 let i:=ws.length
 let x:=wn ws (i-15)
 let y:=wn ws (i-2)
 wn ws (i-16)+(rr x 7 ^^^ rr x 18 ^^^ (x >>> 3))+wn ws (i-7)+(rr y 17 ^^^ rr y 19 ^^^ (y >>> 10))
def bn (bs:List UInt8) (i:Nat):UInt8:=bs.getD i 0
def tA (bs:List UInt8) (i:Nat):W:=word (bn bs (4*i)) (bn bs (4*i+1)) (bn bs (4*i+2)) (bn bs (4*i+3))
def wds (bs:List UInt8):Nat→List W
 | 0=>[]
 | i+1=>wds bs i++[if i<16 then tA bs i else next (wds bs i)]
theorem gV (bs:List UInt8):∀ i,(wds bs i).length=i
 | 0=>rfl
 | i+1=>by simp [wds,gV bs i]
def iH (bs:List UInt8) (i:Nat):List W:=wds bs i++yad (64-i) 0
def comp (s:S8) (bs:List UInt8):S8:=s.add (vM (fun i=>wn (wds bs 64) i) s 64)
def iv:S8:=⟨1779033703,3144134277,1013904242,2773480762,1359893119,2600822924,528734635,1541459225⟩
def ws (l:List W):List V:=l.map w
theorem Dm {l:List W}:(ws l).length=l.length:=by simp [ws]
theorem acO {l:List W}:(ws l).all isC=true:=by simp [ws,isC,isD]
theorem iM {l:List W} {q:List Blk}:wfL q (ws l):=by
 unfold ws
 induction l with
 | nil=>trivial
 | cons x r ih=>exact ⟨trivial,ih⟩
theorem Ut {l:List W} {n:Nat}:(ws l).take n=ws (l.take n):=by simp [ws,yaN]
theorem Uu {l:List W} {n:Nat}:(ws l).drop n=ws (l.drop n):=by simp [ws,ybH]
theorem Zk {l:List W} {f:Nat→Option Nat}:cK f (ws l)=ws l:=by
 unfold ws
 induction l with
 | nil=>rfl
 | cons x r ih=>exact congrArg (w x::·) ih
theorem Zj {l:List W} {i:Nat} {x:W} (hi:i<l.length):(ws l).take i++w x::(ws l).drop (i+1)=ws (l.set i x):=by
 unfold ws
 rw [ybI,ycc,if_pos (by simpa using hi)]
theorem Pl {l:List W} {i:Nat} {x:W} (hi:i<l.length):(ws l).take i++[w x]++(ws l).drop (i+1)=ws (l.set i x):=by
 rw [←Zj hi]
 simp
theorem Cw {l:List W} {i:Nat} (hi:i<l.length):(ws l)[i]?=some (w (wn l i)):=by
 unfold ws wn
 rw [ybJ,yal hi,yag,yal hi]
 rfl
def z64:List W:=yad 64 0
theorem vV:z64.length=64:=rfl
theorem w0:yak V.v (ybK 64 (Value.int IntKind.u32 0)).toList=ws z64:=rfl
theorem acP {l:List W} (h:l.length=64):(ws l).take 64=ws l:=by rw [Ut,yae (by omega)]
theorem Xr {l:List W} (h:l.length=64):(ws l).drop 64=[]:=by rw [Uu,yaz (by omega)];rfl
attribute [irreducible] ws z64
def by1 (b:UInt8):List V:=[u8 b]
theorem agK {b:UInt8}:(by1 b)[0]?=some (u8 b):=rfl
end Go.Fx.E
namespace Go.Fx.E
open Go Go.Fx
abbrev Bs:=List UInt8
def nH (s:S8) (m:Bs):Nat→S8
 | 0=>s
 | k+1=>comp (nH s m k) ((m.drop (64*k)).take 64)
theorem rG {s:S8} {m c:Bs}:∀ {k:Nat},64*k≤m.length→nH s (m++c) k=nH s m k
 | 0,_=>rfl
 | k+1,h=>by
  rw [nH,nH,rG (by omega),ybp (by omega),yaE (by simp;omega)]
structure Stm where
 st:S8
 blk:Bs
 n:Nat
structure Rp (S:Stm) (m:Bs):Prop where
 n:S.n=m.length
 len:S.blk.length=64
 st:S.st=nH iv m (m.length/64)
 blk:S.blk.take (m.length%64)=m.drop (64*(m.length/64))
def lX (blk c:Bs) (j:Nat):Bs:=blk.take j++c++blk.drop (j+c.length)
theorem Gk {blk c:Bs} {j:Nat} (h:j+c.length≤blk.length):(lX blk c j).length=blk.length:=by
 unfold lX;simp;omega
theorem Rp.step {S:Stm} {m c:Bs} (h:Rp S m) (hc:S.n%64+c.length≤64) :
  Rp ⟨if S.n%64+c.length=64 then comp S.st (lX S.blk c (S.n%64)) else S.st,lX S.blk c (S.n%64),S.n+c.length⟩ (m++c):=by
 have hn:=h.n
 have hl:=h.len
 have hb:=h.blk
 have hdl:(m.drop (64*(m.length/64))).length=m.length%64:=by rw [ybq];omega
 rw [hn] at hc ⊢
 have hpl:(lX S.blk c (m.length%64)).length=64:=by rw [Gk (by omega),hl]
 have htk:(lX S.blk c (m.length%64)).take (m.length%64+c.length)=m.drop (64*(m.length/64))++c:=by
  unfold lX
  rw [hb,yaE (by rw [yah,hdl];exact yab _),yae (by rw [yah,hdl];exact yab _)]
 by_cases h64:m.length%64+c.length=64
 ·have e1:(m++c).length/64=m.length/64+1:=by rw [yah];omega
  have e2:(m++c).length%64=0:=by rw [yah];omega
  refine ⟨by simp,hpl,?_,?_⟩
  ·simp only [if_pos h64]
   rw [e1,nH,rG (by omega),h.st]
   congr 1
   rw [ybp (by omega),←htk,h64,List.take_take,Nat.min_self,yae (by omega)]
  ·rw [e2,e1]
   simp only [yaV]
   rw [yaz (by rw [yah];omega)]
 ·have e1:(m++c).length/64=m.length/64:=by rw [yah];omega
  have e2:(m++c).length%64=m.length%64+c.length:=by rw [yah];omega
  refine ⟨by simp,hpl,?_,?_⟩
  ·simp only [if_neg h64]
   rw [e1,rG (by omega),h.st]
  ·rw [e1,e2]
   show (lX S.blk c (m.length%64)).take _=_
   rw [htk,ybp (by omega)]
def len8 (n:Nat):Bs:=(yan 8).map fun i=>UInt8.ofNat (8*n/2 ^ (56-8*i))
def zeros (n:Nat):Nat:=(119-n%64)%64
def pad (n:Nat):Bs:=128::(yad (zeros n) 0++len8 n)
theorem Ph (n:Nat):(n+1+zeros n)%64=56:=by unfold zeros;omega
def acV (m:Bs):S8:=nH iv (m++pad m.length) ((m++pad m.length).length/64)
def Ef (s:S8) (i:Nat):UInt8:=UInt8.ofNat ((wn s.l (i/4)).toNat/2 ^ (24-8*(i%4)))
def sha (m:Bs):Bs:=(yan 32).map (Ef (acV m))
def sC (st:S8) (blk:Bs) (n:Nat):List V:=st.enc++(blk.map u8++[n64 n])
section
variable {s:S8} {b:Bs} {n:Nat}
theorem eR (h:b.length=64):(sC s b n).length=73:=by simp [sC,S8.enc,h]
theorem tE (h:b.length=64):(b.map u8).length=64:=by simpa using h
theorem Vn (h:b.length=64):(sC s b n)[72]?=some (n64 n):=by
 unfold sC
 rw [ybr (by simp [S8.enc]),ybr (by simp [S8.enc,h])]
 simp [S8.enc,h]
theorem acY:(sC s b n).take 8=s.enc:=by
 unfold sC
 rw [yaE (by simp [S8.enc]),yae (by simp [S8.enc])]
theorem aaA {m:Nat} (h:b.length=64):(sC s b n).take 72++[n64 m]++(sC s b n).drop 73=sC s b m:=by
 rw [yaz (by rw [eR h];exact yab _),yao]
 unfold sC
 rw [show (72:Nat)=s.enc.length+64 from rfl,ycd,yaE (by rw [tE h];exact yab _),yae (by rw [tE h];exact yab _),yaF]
theorem Zz {t:S8}:t.enc++(sC s b n).drop 8=sC t b n:=by
 unfold sC
 rw [show (8:Nat)=s.enc.length from rfl,ybL]
theorem Vo {c:Bs} {j:Nat} (h:b.length=64) (hj:j+c.length≤64):(sC s b n).take (8+j)++c.map u8++(sC s b n).drop (8+j+c.length)=sC s (lX b c j) n:=by
 unfold sC lX
 have e8:(8:Nat)=s.enc.length:=rfl
 rw [show 8+j=s.enc.length+j from rfl,ycd,Nat.add_assoc,List.drop_length_add_append]
 rw [yaE (by simp;omega),ybp (by simp;omega)]
 simp [yaN,ybH,yaF]
theorem Vm (h:b.length=64):(((sC s b n).drop 8).take 64).map (fun c=>[c])=b.map by1:=by
 unfold sC
 rw [show (8:Nat)=s.enc.length from rfl,ybL,yaE (by rw [tE h];exact yab _),yae (by rw [tE h];exact yab _),ybb]
 rfl
theorem Qm (h:b.length=64):(((sC s b n).drop 8).take 64).all isD=true:=by
 unfold sC
 rw [show (8:Nat)=s.enc.length from rfl,ybL,yaE (by rw [tE h];exact yab _),yae (by rw [tE h];exact yab _)]
 simp [isD]
theorem Vp:(sC s b n).all isC=true:=by simp [sC,S8.enc,isC,isD]
theorem j2 {q:List Blk}:wfL q (sC s b n):=by
 have:∀ l:List V,l.all isD=true→wfL q l:=by
  intro l
  induction l with
  | nil=>intro _;trivial
  | cons x r ih =>
   intro h
   simp only [yaG,ybc] at h
   refine ⟨?_,ih h.2⟩
   cases x<;>simp [isD] at h<;>trivial
 exact this _ (by simp [sC,S8.enc,isD])
theorem k6 (h:b.length=64):(sC s b n).take 73=sC s b n:=yae (by rw [eR h];exact yab _)
theorem xU (h:b.length=64):(sC s b n).drop 73=[]:=yaz (by rw [eR h];exact yab _)
theorem vY {f:Nat→Option Nat}:cK f (sC s b n)=sC s b n:=by
 have:∀ l:List V,l.all isD=true→(∀ x∈l,∃ u,x=.v u)→cK f l=l:=by
  intro l
  induction l with
  | nil=>intro _ _;rfl
  | cons x r ih =>
   intro h hx
   obtain ⟨u,rfl⟩:=hx x yaO
   simp only [yaG,ybc] at h
   show V.v u::cK f r=_
   rw [ih h.2 fun y hy=>hx y (yaP _ hy)]
 refine this _ (by simp [sC,S8.enc,isD]) ?_
 intro x hx
 simp only [sC,S8.enc,ybM,yaH,yaW,yaI,or_false] at hx
 rcases hx with (rfl|rfl|rfl|rfl|rfl|rfl|rfl|rfl)|⟨u,_,rfl⟩|rfl<;>exact ⟨_,rfl⟩
end
attribute [irreducible] sC
open Go Go.Fx Go.Proofs
abbrev Ok (f:FuncId) (xs:List V) (R:V→List Blk→Prop):Prop:=OkN Tryz.prog f xs [] [] R
theorem ok_of {f:FuncId} {l0 l:LCode} {rs:List iF} {nt:Nat} (hl:rlF Tryz.prog f l0=some (l,rs,nt)) {args:List V} {R:V→List Blk→Prop} (hlen:args.length≤nt)
  (h:aw (cxN Tryz.prog []) l (eZ [] 0 rs R) (fun _ _=>False) (eZ [] 0 rs R) ⟨aL 0 args,[],0⟩):Ok f args R :=
 eS pol [] hl hlen trivial (fun k hk=>by simp at hk) h
theorem alU {a c:Int} {K:V→Prop} {x:Bool}:cO .and x .u64 a c K=K (.v (.int .u64 (IntKind.u64.wrap ((yaf 64 a &&& yaf 64 c).toNat:Int)))):=rfl
theorem aiA:Fy 0 64=some vN:=by kernel_rfl
def sb (l:Bs):ByteArray:=⟨l.toArray⟩
abbrev sv (l:Bs):V:=.v (.string (sb l))
theorem mT {l:Bs}:(sb l).size=l.length:=rfl
theorem Lp {l:Bs}:(sb l).toList=l:=(ByteArray.toList_eq _).trans rfl
theorem afK:Value.string ⟨#[]⟩=.string (sb []):=rfl
theorem Iy {l:Bs} {a b:Nat}:(sb l).extract a b=sb ((l.take b).drop a):=by
 apply ByteArray.ext
 show ((sb l).extract a b).data=_
 rw [ByteArray.data_extract]
 apply Array.ext'
 simp [sb,Array.toList_extract,List.extract,List.drop_take]
theorem aZ {P:Program} {fx:List Nat}:(cxN P fx).bn=[]:=rfl
theorem aJ {P:Program} {fx:List Nat}:(cxN P fx).fx=fx:=rfl
theorem Yo {h:List Blk}:aD [] h=True:=rfl
theorem sV {cx:Cx} {f:FuncId} {args:List V} {e:Env} {h:List Blk} {b:Nat} {K:V→St→Prop} {G:Type} (Q:G→Prop) (xs:List V) (x:G→V) (hC:cx.C f xs [] [] (IsQ Q x (fun _=>[])))
  (h1:aG h (fun _=>none) args∧wkL xs (aX h (fun _=>none) args)) (hx:∀ g,ren (fun j=>some (h.length+j)) (x g)=x g) (keep:aD cx.fx h) (h3:∀ g,Q g→K (x g) ⟨e,h,b⟩):lE cx f args ⟨e,h,b⟩ K:=by
 refine rE xs _ h1 hC ?_
 rintro r h' ⟨g,hg,rfl,rfl⟩
 simp only [yaQ,yao]
 exact ⟨keep,by rw [hx];exact h3 g hg⟩
theorem dB {fx:List Nat} {f:(St→Prop)→St→Prop} {s:St} {G:Type} (pat:G→St) (I:G→Prop) (μ:G→Nat) (g:G) (h0:I g) (h1:leS fx s (pat g))
  (h:∀ g,I g→∀ N:St→Prop,(∀ s' g',I g'→μ g'<μ g→leS fx s' (pat g')→N s')→f N (pat g)):y0 fx f s :=
 aV pat I μ g h0 h1 fun g hg=>h g hg _ fun s' g' a b c=>⟨g',⟨a,b⟩,c⟩
theorem adL:∀ n:Fin 32,n.val≠0→IntKind.u64.wrap (32-((32-n.val:Nat):Int))=(n.val:Int):=by decide
theorem yU (x:W) (n:Nat) (h:1≤n∧n≤31):Ok 156 [w x,.i (-(n:Int))] (Is (w (rr x n))):=by
 have ra:=adN ⟨n,by omega⟩ (by simp;omega)
 have rb:=adM ⟨n,by omega⟩ (by simp;omega)
 have rc:=adL ⟨n,by omega⟩ (by simp;omega)
 simp only at ra rb rc
 refine ok_of lw156 (by simp) ?_
 unfold c156
 have s1:∀ {K:V→Prop},cS .shl .u32 (x.toNat:Int) ((32-n:Nat):Int) K=K (w (x <<< (32-n))):=Tu (by omega)
 have s2:∀ {K:V→Prop},cS .shr .u32 (x.toNat:Int) (n:Int) K=K (w (x >>> n)):=Fh (by omega)
 simp -implicitDefEqProofs only [rX,↓rY,aA,↓reduceIte,Nat.reduceEqDiff,reduceCtorEq,aQ,aU,wfV,aL,↓alU,ra,rb,rc,↓s1,↓s2,↓Yy]
 unfold rr
 rw [BitVec.or_comm]
theorem Ei {a:Nat} (h:a≤31):IntKind.i64.wrap (-(a:Int))=-(a:Int):=by
 have:=(show ∀ n:Fin 32,IntKind.i64.wrap (-(n.val:Int))=-(n.val:Int) by decide) ⟨a,by omega⟩
 simpa using this
theorem Yd (x:W) (a b c:Nat) (ha:1≤a∧a≤31) (hb:1≤b∧b≤31) (hc:1≤c∧c≤31):Ok 149 [w x,.i a,.i b,.i c] (Is (w (rr x a ^^^ rr x b ^^^ rr x c))):=by
 refine ok_of lw149 (by simp) ?_
 unfold c149
 simp -implicitDefEqProofs only [rX,aA,↓reduceIte,Nat.reduceEqDiff,Nat.reduceAdd,reduceCtorEq,aL,Ei ha.2,Ei hb.2,Ei hc.2]
 refine aE (yU x a ha) (by simp [aG,aK,aX,bQ,wkL,wk,wkR]) rfl trivial ?_
 simp -implicitDefEqProofs only [rX,↓reduceIte,Nat.reduceEqDiff,reduceCtorEq,Ei hb.2,Ei hc.2]
 refine aE (yU x b hb) (by simp [aG,aK,aX,bQ,wkL,wk,wkR]) rfl trivial ?_
 simp -implicitDefEqProofs only [rX,↓reduceIte,Nat.reduceEqDiff,reduceCtorEq,Ei hb.2,Ei hc.2,↓rF]
 refine aE (yU x c hc) (by simp [aG,aK,aX,bQ,wkL,wk,wkR]) rfl trivial ?_
 simp -implicitDefEqProofs only [rX,↓reduceIte,Nat.reduceEqDiff,aQ,aU,wfV,Ei hb.2,Ei hc.2,↓rF]
set_option maxRecDepth 20000
theorem xM (bs:List UInt8) {i:Nat} (hi:i≤64):(iH bs i).length=64:=by
 unfold iH
 rw [yah,gV,yaX]
 omega
theorem Zs (bs:List UInt8):iH bs 0=z64:=by unfold iH z64;rfl
theorem Ve (bs:List UInt8):iH bs 64=wds bs 64:=by simp [iH]
theorem Qa (bs:List UInt8) {i:Nat} (hi:i<64) (x:W) (hx:x=if i<16 then tA bs i else next (wds bs i)):(iH bs i).set i x=iH bs (i+1):=by
 unfold iH
 rw [ybs _ _ (by rw [gV];exact yab _),gV,ybN,show 64-i=(64-(i+1))+1 by omega,ybO,yaA]
 subst hx
 simp [wds]
theorem rQ (bs:List UInt8) {i j:Nat} (hi:i≤64) (hj:j<i):wn (iH bs i) j=wn (wds bs i) j:=by
 unfold iH wn
 rw [yag,yag,ybt (by rw [gV];exact hj)]
def part (bs:List UInt8) (i:Nat):Nat→W
 | 0=>0
 | j+1=>part bs i j <<< 8 ||| B32 (bn bs (4*i+j))
theorem aaG (bs:List UInt8) (i:Nat):part bs i 4=tA bs i:=by
 unfold tA
 rw [←Uv]
 rfl
def mN (bs:List UInt8) (i j:Nat):List W:=(iH bs i).set i (part bs i j)
theorem Zt (bs:List UInt8) {i:Nat} (hi:i<64):mN bs i 0=iH bs i:=by
 unfold mN iH
 rw [ybs _ _ (by rw [gV];exact yab _),gV,ybN,show 64-i=(64-(i+1))+1 by omega,ybO,yaA]
 rfl
theorem Qc (bs:List UInt8) {i j:Nat} (hi:i≤64):(mN bs i j).length=64:=by
 unfold mN
 rw [List.length_set,xM bs hi]
theorem Qd (bs:List UInt8) {i j:Nat} (hi:i<64):wn (mN bs i j) i=part bs i j:=by
 unfold mN wn
 rw [yag,List.getElem?_set_self (by rw [xM bs (by omega)];exact hi)]
 rfl
theorem Qb (bs:List UInt8) {i j:Nat} (x:W) (hx:x=part bs i (j+1)):(mN bs i j).set i x=mN bs i (j+1):=by
 unfold mN
 rw [List.set_set,hx]
abbrev byV (bs:List UInt8):V:=.bro 1 (bs.map by1)
set_option maxHeartbeats 1000000 in
theorem aeL (bs:List UInt8) (hb:bs.length=64):Ok 148 [byV bs] (Is (.agg (ws (wds bs 64)))):=by
 refine ok_of lw148 (by simp) ?_
 unfold c148
 simp -implicitDefEqProofs only [rX,↓rY,aA,cells?,Nat.reduceAdd,aC,aJ,aL,w0]
 have lW:(wds bs 64).length=64:=gV bs 64
 refine dB (fun i:Nat=>(⟨[(11,.i i),(3,.ptr 1 0 0),(2,.ptr 0 0 0),(0,byV bs)],[.var (ws z64),.var (ws (iH bs i))],2⟩:St)) (fun i=>i≤64) (fun i=>64-i) 0 (yaq _) ?_ ?_
 ·rw [Zs]
  exact ⟨by simp -implicitDefEqProofs only [rX,↓reduceIte,Nat.reduceEqDiff,reduceCtorEq,leE];rfl,bV _,trivial,by simp -implicitDefEqProofs only [rX,aB,wfE,wfV],⟨iM,iM,trivial⟩⟩
 intro i hi N hN
 simp only [c148l0]
 simp -implicitDefEqProofs only [rX,↓rY,aA,cells?,splice,↓reduceIte,Nat.reduceEqDiff,Nat.reduceAdd,reduceCtorEq,dU,aQ,aU,wfV,aZ,aJ,yar]
 cases h1:decide ((i:Int)<64) with
 | false =>
  have h1':=of_decide_eq_false h1
  have:i=64:=by omega
  subst this
  simp -implicitDefEqProofs only [rX,↓rY,Ve,Dm,acP lW,lW,vV,Xr vV,acO,iM]
 | true =>
  have h1':=of_decide_eq_true h1
  have hi64:i<64:=by omega
  have lT:(iH bs i).length=64:=xM bs hi
  have fin:∀ (x:W) (e:Env),x=(if i<16 then tA bs i else next (wds bs i))→get e 3=.ptr 1 0 0→get e 2=.ptr 0 0 0→get e 0=byV bs →
    N (⟨(11,.i ((i:Int)+1))::e,[.var (ws z64),.var (ws ((iH bs i).set i x))],2⟩:St):=by
   intro x e hx e3 e2 e0
   refine hN _ (i+1) (by omega) (by omega) ?_
   rw [Qa bs hi64 x hx]
   exact ⟨by simp -implicitDefEqProofs only [rX,↓reduceIte,Nat.reduceEqDiff,reduceCtorEq,leE,e3,e2,e0];simp,bV _,trivial,by simp -implicitDefEqProofs only [rX,aB,wfE,wfV],⟨iM,iM,trivial⟩⟩
  have sp:∀ x:W,yai i (ws (iH bs i))++[w x]++yaJ (i+1) (ws (iH bs i))=ws ((iH bs i).set i x):=fun x=>Pl (by omega)
  simp -implicitDefEqProofs only [↓rY]
  cases h2:decide ((i:Int)<16) with
  | true =>
   have h2':=of_decide_eq_true h2
   have h4:yai ((4*(i:Int)+4).toNat-(4*(i:Int)).toNat) (yaJ (4*(i:Int)).toNat (yak by1 bs))=((bs.drop (4*i)).take 4).map by1:=by
    rw [show (4*(i:Int)+4).toNat-(4*(i:Int)).toNat=4 by omega,show (4*(i:Int)).toNat=4*i by omega,yaN,ybH]
   have l4:((bs.drop (4*i)).take 4).length=4:=by simp;omega
   have a1:(lo IntKind.i64≤4*(i:Int)∧4*(i:Int)≤Fx.hi IntKind.i64):=by simp only [lo,Fx.hi];omega
   have a2:(lo IntKind.i64≤4*(i:Int)+4∧4*(i:Int)+4≤Fx.hi IntKind.i64):=by simp only [lo,Fx.hi];omega
   have a3:((0≤4*(i:Int)∧4*(i:Int)≤4*(i:Int)+4)∧4*(i:Int)+4≤(bs.length:Int)∧(bs.length:Int)≤(bs.length:Int)):=by omega
   simp -implicitDefEqProofs only [rX,↓rY,h4,l4,eq_true a1,eq_true a2,eq_true a3]
   intro _
   refine dB (fun j:Nat=>(⟨[(24,.i j),(23,.i 4),(22,.bro 1 (((bs.drop (4*i)).take 4).map by1)),(4,.i i),(11,.i i),(3,.ptr 1 0 0),(2,.ptr 0 0 0),(0,byV bs)],[.var (ws z64),.var (ws (mN bs i j))],2⟩:St)) (fun j=>j≤4) (fun j=>4-j) 0 (yaq _) ?_ ?_
   ·rw [Zt bs hi64]
    exact ⟨by simp -implicitDefEqProofs only [rX,↓reduceIte,Nat.reduceEqDiff,reduceCtorEq,leE];exact ⟨rfl,rfl⟩,bV _,trivial,by simp -implicitDefEqProofs only [rX,aB,wfE,wfV],⟨iM,iM,trivial⟩⟩
   intro j hj M hM
   have lP:(mN bs i j).length=64:=Qc bs hi
   simp only [c148l1]
   simp -implicitDefEqProofs only [rX,↓rY,aA,cells?,splice,↓reduceIte,Nat.reduceEqDiff,Nat.reduceAdd,yac,yaa,aZ,agK,yar]
   cases h3:decide ((j:Int)<4) with
   | false =>
    have h3':=of_decide_eq_false h3
    have:j=4:=by omega
    subst this
    have hq:mN bs i 4=(iH bs i).set i (tA bs i):=by unfold mN;rw [aaG]
    simp -implicitDefEqProofs only [↓rY,hq]
    exact ⟨by simp only [lo,Fx.hi];omega,fin _ _ (by rw [if_pos (by omega)]) rfl rfl rfl⟩
   | true =>
    have h3':=of_decide_eq_true h3
    have hj4:j<4:=by omega
    have hg:((bs.drop (4*i)).take 4)[j]'(by omega)=bn bs (4*i+j):=by
     unfold bn
     rw [ybP,List.getElem_drop,yag,yal (by omega)]
     rfl
    have s8:∀ {x:W} {K:V→Prop},cS .shl .u32 (x.toNat:Int) 8 K=K (w (x <<< 8)):=fun {x K}=>Tu (n:=8) (by omega)
    have gi:(ws (mN bs i j))[i]?=some (w (part bs i j)):=by rw [Cw (by omega),Qd bs hi64]
    have spP:∀ x:W,yai i (ws (mN bs i j))++[w x]++yaJ (i+1) (ws (mN bs i j))=ws ((mN bs i j).set i x):=fun x=>Pl (by omega)
    simp -implicitDefEqProofs only [rX,↓rY,isC,Nat.reduceLeDiff,gi,↓s8,l4,hg,↓abY,spP,Dm,lP]
    refine ⟨by omega,⟨by omega,by omega,?_,by omega,by omega,by simp only [lo,Fx.hi];omega,?_⟩⟩
    ·have:=(bn bs (4*i+j)).toNat_lt
     simp only [lo,Fx.hi];omega
    refine hM _ (j+1) (by omega) (by omega) ?_
    rw [show (mN bs i j).set i (part bs i j <<< 8 ||| B32 (bn bs (4*i+j)))=mN bs i (j+1) from Qb bs _ rfl]
    exact ⟨by simp -implicitDefEqProofs only [rX,↓reduceIte,Nat.reduceEqDiff,reduceCtorEq,leE];simp,bV _,trivial,by simp -implicitDefEqProofs only [rX,aB,wfE,wfV],⟨iM,iM,trivial⟩⟩
  | false =>
   have h2':=of_decide_eq_false h2
   have g15:(ws (iH bs i))[((i:Int)-15).toNat]?=some (w (wn (wds bs i) (i-15))):=by
    rw [show ((i:Int)-15).toNat=i-15 by omega,Cw (by omega),rQ bs hi (by omega)]
   have g2:(ws (iH bs i))[((i:Int)-2).toNat]?=some (w (wn (wds bs i) (i-2))):=by
    rw [show ((i:Int)-2).toNat=i-2 by omega,Cw (by omega),rQ bs hi (by omega)]
   have g16:(ws (iH bs i))[((i:Int)-16).toNat]?=some (w (wn (wds bs i) (i-16))):=by
    rw [show ((i:Int)-16).toNat=i-16 by omega,Cw (by omega),rQ bs hi (by omega)]
   have g7:(ws (iH bs i))[((i:Int)-7).toNat]?=some (w (wn (wds bs i) (i-7))):=by
    rw [show ((i:Int)-7).toNat=i-7 by omega,Cw (by omega),rQ bs hi (by omega)]
   have s3:∀ {x:W} {K:V→Prop},cS .shr .u32 (x.toNat:Int) 3 K=K (w (x >>> 3)):=fun {x K}=>Fh (n:=3) (by omega)
   have s10:∀ {x:W} {K:V→Prop},cS .shr .u32 (x.toNat:Int) 10 K=K (w (x >>> 10)):=fun {x K}=>Fh (n:=10) (by omega)
   simp -implicitDefEqProofs only [↓rY,g15,g2]
   refine ⟨by simp only [lo,Fx.hi];omega,by omega,by simp only [lo,Fx.hi];omega,by omega,?_⟩
   refine aE (yU (wn (wds bs i) (i-15)) 7 (by omega)) (by simp [aG,aK,aX,bQ,wkL,wk,wkR]) rfl trivial ?_
   simp -implicitDefEqProofs only [rX,aA,↓reduceIte,Nat.reduceEqDiff]
   refine aE (yU (wn (wds bs i) (i-15)) 18 (by omega)) (by simp [aG,aK,aX,bQ,wkL,wk,wkR]) rfl trivial ?_
   simp -implicitDefEqProofs only [qY,zc,zi,zj,zm,zv,zJ,kM,kQ,kS,kT,kX,aA,yaB,yav,↓reduceIte,Nat.reduceEqDiff,kZ,yao,yay,Nat.reduceAdd,yaC,yaQ,true_and,qar,↓rF,↓s3]
   refine aE (yU (wn (wds bs i) (i-2)) 17 (by omega)) (by simp [aG,aK,aX,bQ,wkL,wk,wkR]) rfl trivial ?_
   simp -implicitDefEqProofs only [rX,aA,↓reduceIte,Nat.reduceEqDiff]
   refine aE (yU (wn (wds bs i) (i-2)) 19 (by omega)) (by simp [aG,aK,aX,bQ,wkL,wk,wkR]) rfl trivial ?_
   simp -implicitDefEqProofs only [qY,qZ,zi,zj,zm,zq,zr,zv,zJ,zX,kQ,kR,kS,kT,kX,aA,cells?,yaB,yav,yaA,splice,kY,yag,yau,↓reduceIte,Nat.reduceEqDiff,yaw,kZ,yao,yay,Nat.reduceAdd,yaG,yaY,isC,yaR,yaK,true_and,and_true,and_self,yaI,not_false_eq_true,Nat.reduceLeDiff,lg0,wl,qar,↓qas,↓qau,↓qaw,↓qaA,↓qaC,↓qaD,↓qaH,↓qcn,↓qcp,yaa,aZ,yar,↓Fi,↓rF,↓s10,g16,g7,yar,sp,Dm,lT]
   refine ⟨by simp only [lo,Fx.hi];omega,by omega,by simp only [lo,Fx.hi];omega,by omega,by omega,by omega,by simp only [lo,Fx.hi];omega,?_⟩
   exact fin _ _ (by rw [if_neg (by omega)];unfold next;rw [gV]) rfl rfl rfl
set_option maxRecDepth 20000
theorem b8 {b:UInt8}:lo .u32≤(b.toNat:Int)∧(b.toNat:Int)≤Fx.hi .u32:=by
 have:=b.toNat_lt
 simp only [lo,Fx.hi];omega
set_option maxRecDepth 20000
def kA:List V:=vN.map V.v
theorem aaX:yak V.v vN=kA:=rfl
theorem aaY {i:Nat} (h:i<64):kA[i]?=some (w (kW i)):=by
 have:∀ i:Fin 64,Jv.getD i.val 0<4294967296∧i.val<Jv.length:=by decide +kernel
 obtain ⟨h1,h2⟩:=this ⟨i,h⟩
 simp only at h1 h2
 unfold kA vN kW
 rw [ybb,ybJ,yal h2]
 rw [yag,yal h2] at h1 ⊢
 simp only [yaw] at h1
 have h3:(yaT 32 Jv[i]).toNat=Jv[i]:=by rw [ybG];omega
 simp only [ybu,Function.comp,yaw,w]
 rw [h3]
theorem Xs {q:List Blk}:∀ l:List Value,wfL q (l.map V.v)
 | []=>trivial
 | _::r=>⟨trivial,Xs r⟩
theorem Yp {q:List Blk}:wfL q kA:=Xs vN
attribute [irreducible] kA
def stp (s r:S8) (i:Nat):S8:=⟨if 0<i then s.a+r.a else s.a,if 1<i then s.b+r.b else s.b,if 2<i then s.c+r.c else s.c,if 3<i then s.d+r.d else s.d,if 0<i then s.e+r.e else s.e,if 1<i then s.f+r.f else s.f,if 2<i then s.g+r.g else s.g,if 3<i then s.h+r.h else s.h⟩
theorem acU (s r:S8):stp s r 4=s.add r:=rfl
theorem n0:((0:Nat):Int)=0:=rfl
theorem n1:((1:Nat):Int)=1:=rfl
theorem n2:((2:Nat):Int)=2:=rfl
theorem n3:((3:Nat):Int)=3:=rfl
theorem n8:((8:Nat):Int)=8:=rfl
theorem m64:((64:Nat):Int)=64:=rfl
theorem n4:((4:Nat):Int)=4:=rfl
abbrev z8:List V:=[.v (.int .u32 0),.v (.int .u32 0),.v (.int .u32 0),.v (.int .u32 0),.v (.int .u32 0),.v (.int .u32 0),.v (.int .u32 0),.v (.int .u32 0)]
theorem S8.enc_C (s:S8):s.enc.all isC=true:=rfl
set_option maxHeartbeats 2000000 in
theorem aeP (s:S8) (bs:List UInt8) (hb:bs.length=64):Ok 131 [.agg s.enc,byV bs] (Is (.agg (comp s bs).enc)):=by
 refine ok_of lw131 (by simp) ?_
 unfold c131
 simp -implicitDefEqProofs only [rX,↓rY,aA,cells?,↓reduceIte,Nat.reduceEqDiff,Nat.reduceAdd,reduceCtorEq,aC,aL,S8.enc]
 have lW:(wds bs 64).length=64:=gV bs 64
 refine aE (aeL bs hb) (by simp [aG,aK,aX,bQ,wkL,wk,wkR,wkB]) (by simp [ren,Zk]) trivial ?_
 simp -implicitDefEqProofs only [rX,↓rY,rdK,aA,cells?,splice,↓reduceIte,Nat.reduceEqDiff,Nat.reduceAdd,reduceCtorEq,aC,dU,isC,Nat.reduceLT,Nat.reduceLeDiff,aZ,aJ,w0,aiA,aaX,Dm,vV,lW,acP lW,Xr vV,acO,yaZ,n8,ybd,Nat.reduceSub]
 refine ⟨?_,?_⟩
 all_goals
  refine dB (fun i:Nat=>(⟨[(22,.i i),(21,.agg kA),(7,.ptr 4 0 0),(6,.ptr 3 0 0),(5,.ptr 2 0 0),(4,.ptr 1 0 0),(2,.ptr 0 0 0)],[.var [w s.a,w s.b,w s.c,w s.d,w s.e,w s.f,w s.g,w s.h],.var z8,.var (ws (wds bs 64)),.var [w (vM (wn (wds bs 64)) s i).a,w (vM (wn (wds bs 64)) s i).b,w (vM (wn (wds bs 64)) s i).c,w (vM (wn (wds bs 64)) s i).d],.var [w (vM (wn (wds bs 64)) s i).e,w (vM (wn (wds bs 64)) s i).f,w (vM (wn (wds bs 64)) s i).g,w (vM (wn (wds bs 64)) s i).h]],5⟩:St)) (fun i=>i≤64) (fun i=>64-i) 0 (yaq _) ?_ ?_
  ·refine ⟨by simp -implicitDefEqProofs only [rX,↓reduceIte,Nat.reduceEqDiff,leE];rfl,bV _,trivial,?_,?_⟩
   ·simp -implicitDefEqProofs only [rX,aB,wfE,wfV,Yp]
   ·simp -implicitDefEqProofs only [rX,wfB,wfV,wfL,iM]
  intro i hi N hN
  obtain ⟨r,hr⟩:∃ r,r=vM (wn (wds bs 64)) s i:=⟨_,rfl⟩
  rw [←hr]
  simp only [c131l0]
  simp -implicitDefEqProofs only [rX,↓rY,rdK,aA,↓reduceIte,Nat.reduceEqDiff,Nat.reduceAdd,yaa,aJ,yar]
  cases h1:decide ((i:Int)<64) with
  | false =>
   have h1':=of_decide_eq_false h1
   have:i=64:=by omega
   subst this
   simp -implicitDefEqProofs only [↓rY]
   refine dB (fun i:Nat=>(⟨[(94,.i i),(7,.ptr 4 0 0),(6,.ptr 3 0 0),(4,.ptr 1 0 0),(2,.ptr 0 0 0)],[.var [w (stp s r i).a,w (stp s r i).b,w (stp s r i).c,w (stp s r i).d,w (stp s r i).e,w (stp s r i).f,w (stp s r i).g,w (stp s r i).h],.var z8,.var (ws (wds bs 64)),.var [w r.a,w r.b,w r.c,w r.d],.var [w r.e,w r.f,w r.g,w r.h]],5⟩:St)) (fun i=>i≤4) (fun i=>4-i) 0 (yaq _) ?_ ?_
   ·exact ⟨by simp -implicitDefEqProofs only [rX,↓reduceIte,Nat.reduceEqDiff,leE];rfl,bV _,trivial,by simp -implicitDefEqProofs only [rX,aB,wfE,wfV],by simp -implicitDefEqProofs only [rX,wfB,wfV,wfL,iM]⟩
   intro i hi N hN
   have hc:comp s bs=s.add r:=by unfold comp;rw [hr]
   have hcase:i=0∨i=1∨i=2∨i=3∨i=4:=by omega
   rcases hcase with rfl|rfl|rfl|rfl|rfl
   all_goals
    simp only [c131l1]
    simp -implicitDefEqProofs only [qX,qY,qZ,zc,zd,ze,zg,zh,zi,zj,zm,zq,zr,zv,zX,kQ,kR,kS,kT,kX,aA,cells?,yaB,yav,yaA,splice,kY,yag,yau,↓reduceIte,Nat.reduceEqDiff,yaw,kZ,wb,↓wc,↓wd,ybe,yaL,yao,yay,Nat.reduceAdd,ybf,wh,aQ,aU,ybv,ybw,wfV,wfL,yaS,yaV,ybx,ybg,yaG,yaY,isC,yaR,yaK,true_and,and_true,and_self,yaI,yah,not_false_eq_true,Nat.reduceLT,Nat.reduceLeDiff,yab,lg0,wl,wm,wo,lg1,wt,wu,lg2,wx,wy,lg3,wD,wE,lg4,wI,wJ,lg5,wM,wN,lg6,wQ,wR,lg7,wU,wV,qar,↓qas,↓qau,↓qaw,↓qax,↓qaA,↓qaB,↓qaC,↓qaD,↓qaE,↓qaH,↓qcn,↓qcv,aZ,yar,yaZ,Int.reduceAdd,n0,n1,n2,n3,n4,n8,decide_true,decide_false,yby,ybd,↓Fi]
   ·exact ⟨by decide,by decide,hN _ 1 (by omega) (by omega) ⟨by simp -implicitDefEqProofs only [rX,↓reduceIte,Nat.reduceEqDiff,leE];rfl,bV _,trivial,by simp -implicitDefEqProofs only [rX,aB,wfE,wfV],by simp -implicitDefEqProofs only [rX,wfB,wfV,wfL,iM]⟩⟩
   ·exact ⟨by decide,by decide,hN _ 2 (by omega) (by omega) ⟨by simp -implicitDefEqProofs only [rX,↓reduceIte,Nat.reduceEqDiff,leE];rfl,bV _,trivial,by simp -implicitDefEqProofs only [rX,aB,wfE,wfV],by simp -implicitDefEqProofs only [rX,wfB,wfV,wfL,iM]⟩⟩
   ·exact ⟨by decide,by decide,hN _ 3 (by omega) (by omega) ⟨by simp -implicitDefEqProofs only [rX,↓reduceIte,Nat.reduceEqDiff,leE];rfl,bV _,trivial,by simp -implicitDefEqProofs only [rX,aB,wfE,wfV],by simp -implicitDefEqProofs only [rX,wfB,wfV,wfL,iM]⟩⟩
   ·exact ⟨by decide,by decide,hN _ 4 (by omega) (by omega) ⟨by simp -implicitDefEqProofs only [rX,↓reduceIte,Nat.reduceEqDiff,leE];rfl,bV _,trivial,by simp -implicitDefEqProofs only [rX,aB,wfE,wfV],by simp -implicitDefEqProofs only [rX,wfB,wfV,wfL,iM]⟩⟩
   ·rw [hc,acU]
  | true =>
   have h1':=of_decide_eq_true h1
   have gw:(ws (wds bs 64))[i]?=some (w (wn (wds bs 64) i)):=Cw (by omega)
   have ck:(0≤(i:Int)∧(i:Int)<((64:Nat):Int)):=by omega
   simp -implicitDefEqProofs only [yau,kZ,↓wc,yaK,true_and,and_self,Nat.reduceLT,lg0,lg1,lg2,↓qas,eq_true ck,aaY (show i<64 by omega),yaZ,n4,yby,ybd,↓rF,↓Tv,↓abZ,gw]
   refine aE (Yd r.e 6 11 25 (by omega) (by omega) (by omega)) (by simp [aG,aK,aX,bQ,wkL,wk,wkR]) rfl trivial ?_
   simp -implicitDefEqProofs only [qa,qe,qs,qP,rdK,qQ,qR,qS,qT,qV,zc,zm,zq,zv,zX,kM,kQ,kS,kT,kX,aA,yaB,yav,kY,yag,yau,↓reduceIte,Nat.reduceEqDiff,yaw,kZ,yao,yay,Nat.reduceAdd,yaC,yaQ,yaR,yaK,true_and,and_true,and_self,Nat.reduceLT,lg0,lg1,lg2,qar,↓qas,↓qau,↓qaw,↓qaA,↓qaH,aJ,yar,eq_true ck,yaZ,n4,yby,ybd,↓Fi,↓rF,↓Tv]
   refine aE (Yd r.a 2 13 22 (by omega) (by omega) (by omega)) (by simp [aG,aK,aX,bQ,wkL,wk,wkR]) rfl trivial ?_
   simp -implicitDefEqProofs only [qa,qe,qR,qT,qY,zc,zi,zj,zm,zq,zr,zv,zG,zX,kQ,kR,kS,kT,kX,aA,cells?,yaB,yav,yaA,splice,kY,yag,yau,↓reduceIte,Nat.reduceEqDiff,yaw,kZ,ybe,yaL,yao,yay,Nat.reduceAdd,ybf,bU,yaC,yaQ,yaS,yaV,ybg,yaG,yaY,isC,yaR,yaK,true_and,and_true,and_self,yaI,yah,not_false_eq_true,Nat.reduceLT,Nat.reduceLeDiff,yab,lg0,wl,wm,wo,lg1,wr,wt,wu,lg2,ww,wx,wy,lg3,wC,wD,qar,↓qas,↓qau,↓qaw,↓qaA,↓qaC,↓qaE,↓qaH,↓qcn,aZ,yar,yaZ,n4,yby,ybd,↓Fi,splice]
   refine ⟨by simp only [lo,Fx.hi];omega,hN _ (i+1) (by omega) (by omega) ?_⟩
   have e:vM (wn (wds bs 64)) s (i+1)=r.rnd (kW i) (wn (wds bs 64) i):=by rw [hr];rfl
   simp only [e]
   exact ⟨by simp -implicitDefEqProofs only [rX,↓reduceIte,Nat.reduceEqDiff,leE];simp,bV _,trivial,by simp -implicitDefEqProofs only [rX,aB,wfE,wfV,Yp],by simp -implicitDefEqProofs only [rX,wfB,wfV,wfL,iM]⟩
set_option maxRecDepth 20000
def Stm.enc (S:Stm):List V:=sC S.st S.blk S.n
theorem Tg {s:S8} {f:Nat→Option Nat}:cK f s.enc=s.enc:=rfl
theorem Kb {s:S8} {h:List Blk} {g:Nat→Option Nat}:aG h g s.enc:=⟨trivial,trivial,trivial,trivial,trivial,trivial,trivial,trivial,trivial⟩
theorem Wx {s:S8} {h:List Blk} {g:Nat→Option Nat}:wkL s.enc (aX h g s.enc):=⟨rfl,rfl,rfl,rfl,rfl,rfl,rfl,rfl,trivial⟩
theorem enc_len {s:S8}:s.enc.length=8:=rfl
theorem Zv {t:Bs}:eW (sb t)=t.map by1:=rfl
set_option maxHeartbeats 2000000 in
theorem aaJ (S:Stm) (m t:Bs) (h:Rp S m) (hm:m.length+t.length≤1152921504606846976):Ok 97 [.agg S.enc,sv t] (IsQ (fun S'=>Rp S' (m++t)) (fun S'=>.agg S'.enc) (fun _=>[])):=by
 refine ok_of lw97 (by simp) ?_
 unfold c97
 simp -implicitDefEqProofs only [rX,↓rY,aA,cells?,↓reduceIte,aC,aJ,aL,Stm.enc]
 refine dB (fun g:Stm × Bs × Bs=>(⟨[(1,sv g.2.2),(4,.ptr 1 0 0),(2,.ptr 0 0 0)],[.var (sC g.1.st g.1.blk g.1.n),.var (sC ⟨0,0,0,0,0,0,0,0⟩ (yad 64 0) 0)],2⟩:St)) (fun g=>Rp g.1 (m++g.2.1)∧g.2.1++g.2.2=t) (fun g=>g.2.2.length) (S,[],t) ⟨by simpa using h,rfl⟩ ?_ ?_
 ·refine ⟨by simp -implicitDefEqProofs only [rX,↓reduceIte,Nat.reduceEqDiff,reduceCtorEq,leE],⟨bB _,?_,trivial⟩,trivial,by simp -implicitDefEqProofs only [rX,aB,wfE,wfV],⟨j2,j2,trivial⟩⟩
  show bA _ _
  rw [show sC ⟨0,0,0,0,0,0,0,0⟩ (yad 64 0) 0=yad 8 (w 0)++(yad 64 (u8 0)++[n64 0]) by unfold sC;rfl]
  exact mA _
 rintro ⟨S,c,r⟩ ⟨hR,hcr⟩ N hN
 simp only at hR hcr
 have hl:=hR.len
 have hn:=hR.n
 have hsum:c.length+r.length=t.length:=by rw [←hcr,yah]
 rw [yah] at hn
 obtain ⟨j,hj⟩:∃ j,j=S.n%64:=⟨_,rfl⟩
 have hj64:j<64:=by omega
 obtain ⟨cc,hcc⟩:∃ cc,cc=r.take (64-j):=⟨_,rfl⟩
 have hcl:cc.length=min r.length (64-j):=by rw [hcc,yas];omega
 have e1:IntKind.i64.wrap (Int.tmod (S.n:Int) 64)=(j:Int):=by
  rw [show Int.tmod (S.n:Int) 64=(j:Int) by rw [hj];simp [Int.tmod_eq_emod]]
  exact dY _ _ ⟨by simp only [lo];omega,by simp only [Fx.hi];omega⟩
 have f1:(yai (64-j) (eW (sb r))).flatten=cc.map u8:=by
  rw [hcc,Zv,←yaN]
  induction r.take (64-j) with
  | nil=>rfl
  | cons x q ih=>rw [yaC,List.flatten_cons,ih];rfl
 have f2:min (eW (sb r)).length (64-j)=cc.length:=by rw [Zv,yam,hcl]
 have e2:IntKind.u64.wrap (cc.length:Int)=(cc.length:Int):=dY _ _ ⟨by simp only [lo];omega,by simp only [Fx.hi];omega⟩
 have e3:IntKind.u64.wrap ((S.n:Int)+(cc.length:Int))=((S.n+cc.length:Nat):Int):=by
  rw [←Int.natCast_add]
  exact dY _ _ ⟨by simp only [lo];omega,by simp only [Fx.hi];omega⟩
 have f3:(sC S.st S.blk S.n).take (8+j)++cc.map u8++(sC S.st S.blk S.n).drop (8+j+cc.length)=sC S.st (lX S.blk cc j) S.n:=Vo hl (by omega)
 have pl:(lX S.blk cc j).length=64:=by rw [Gk (by omega),hl]
 have sx:(sb r).extract cc.length r.length=sb (r.drop cc.length):=by rw [Iy,List.take_length]
 have hst:=hR.step (c:=cc) (by omega)
 simp only [c97l0]
 simp -implicitDefEqProofs only [rX,↓rY,aA,cells?,splice,↓reduceIte,Nat.reduceEqDiff,Nat.reduceAdd,dU,isC,Nat.reduceLeDiff,yaa,aZ,mT,Lp,afK,Lp,Vn hl,eR hl,e1,f1,f2,f3,e2,Vn pl,eR pl,e3,aaA pl,sx,yas,ybq,yaZ,m64]
 cases hr:(!r==([]:Bs)) with
 | false =>
  have hr':r=[]:=by simpa using hr
  subst hr'
  rw [yao] at hcr
  subst hcr
  have zl:(yad 64 (0:UInt8)).length=64:=rfl
  simp -implicitDefEqProofs only [rX,↓rY,k6 hl,Vp,eR zl,xU zl,eR hl,Nat.min_self]
  refine dV S hR ?_
  simp -implicitDefEqProofs only [rX,↓rY,↓reduceIte,Nat.reduceEqDiff,aQ,aU,leH,aD,wfB,wfV,k6 hl,eR hl,j2]
 | true =>
  have hr':r≠[]:=by simpa using hr
  have hrl:0<r.length:=List.length_pos_iff.2 hr'
  simp -implicitDefEqProofs only [↓rY]
  refine ⟨by omega,by omega,by omega,by omega,by omega,⟨by simp only [lo];omega,by simp only [Fx.hi];omega⟩,?_⟩
  have hrd:cc++r.drop cc.length=r:=by
   by_cases h:64-j≤r.length
   ·rw [show cc.length=64-j by omega,hcc,yce]
   ·rw [hcc,yae (by omega),yaz (by omega),yao]
  rw [←hj] at hst
  have hI:c++cc++r.drop cc.length=t:=by rw [yaF,hrd,hcr]
  rw [yaF] at hst
  cases h6:((j:Int)+(cc.length:Int)==64) with
  | true =>
   have h6':j+cc.length=64:=by have:=eq_of_beq h6;omega
   rw [if_pos h6'] at hst
   simp -implicitDefEqProofs only [↓rY,acY]
   refine ⟨by omega,⟨by omega,by omega,by omega⟩,?_⟩
   refine aE (aeP S.st (lX S.blk cc j) pl) ⟨⟨Kb,trivial,trivial⟩,Wx,?_,trivial⟩ (by simp only [ren,Tg]) trivial ?_
   ·show wkB (if (decide (8+64≤(sC S.st (lX S.blk cc j) (S.n+cc.length)).length)&&(((sC S.st (lX S.blk cc j) (S.n+cc.length)).drop 8).take 64).all isD)=true then V.bro 1 ((((sC S.st (lX S.blk cc j) (S.n+cc.length)).drop 8).take 64).map fun c=>[c]) else V.any) 1 ((lX S.blk cc j).map by1)
    rw [if_pos (by rw [eR pl,Qm pl];rfl),Vm pl]
    exact ⟨rfl,rfl⟩
   simp -implicitDefEqProofs only [rX,↓rY,cells?,splice,↓reduceIte,Nat.reduceEqDiff,Nat.reduceLeDiff,aZ,Zz,eR pl,enc_len,S8.enc_C]
   refine hN _ (⟨comp S.st (lX S.blk cc j),lX S.blk cc j,S.n+cc.length⟩,c++cc,r.drop cc.length) ⟨hst,hI⟩ (by simp only [ybq];omega) ?_
   exact ⟨by simp -implicitDefEqProofs only [rX,↓reduceIte,Nat.reduceEqDiff,leE],bV _,trivial,by simp -implicitDefEqProofs only [rX,aB,wfE,wfV],⟨j2,j2,trivial⟩⟩
  | false =>
   have h6':j+cc.length≠64:=by
    intro h
    have:((j:Int)+(cc.length:Int)==64)=true:=by rw [beq_iff_eq];omega
    rw [this] at h6;cases h6
   rw [if_neg h6'] at hst
   simp -implicitDefEqProofs only [↓rY]
   refine hN _ (⟨S.st,lX S.blk cc j,S.n+cc.length⟩,c++cc,r.drop cc.length) ⟨hst,hI⟩ (by simp only [ybq];omega) ?_
   exact ⟨by simp -implicitDefEqProofs only [rX,↓reduceIte,Nat.reduceEqDiff,leE],bV _,trivial,by simp -implicitDefEqProofs only [rX,aB,wfE,wfV],⟨j2,j2,trivial⟩⟩
set_option maxRecDepth 20000
def us (l:Bs):List V:=l.map u8
theorem pD {l:Bs}:(us l).length=l.length:=by simp [us]
theorem Ng {l:Bs}:(us l).all isC=true:=by simp [us,isC,isD]
theorem ahY {l:Bs}:(us l).all isD=true:=by simp [us,isD]
theorem acS {l:Bs}:bA (us l) (us l):=mA _
theorem hU {l:Bs} {q:List Blk}:wfL q (us l):=by
 unfold us
 induction l with
 | nil=>trivial
 | cons x r ih=>exact ⟨trivial,ih⟩
theorem mM {l:Bs} {f:Nat→Option Nat}:cK f (us l)=us l:=by
 unfold us
 induction l with
 | nil=>rfl
 | cons x r ih=>exact congrArg (u8 x::·) ih
theorem Va {l:Bs} {n:Nat}:(us l).take n=us (l.take n):=by simp [us,yaN]
theorem Zn {l:Bs} {i:Nat} {x:UInt8} (hi:i<l.length):(us l).take i++[u8 x]++(us l).drop (i+1)=us (l.set i x):=by
 unfold us
 rw [ybI,ycc,if_pos (by simpa using hi)]
 simp
theorem Zo {l:Bs} {i:Nat} (hi:i<l.length):(us l)[i]?=some (u8 (bn l i)):=by
 unfold us bn
 rw [ybJ,yal hi,yag,yal hi]
 rfl
attribute [irreducible] us
def z32:Bs:=yad 32 0
theorem vW:z32.length=32:=rfl
theorem w32:yak V.v (ybK 32 (Value.int IntKind.u8 0)).toList=us z32:=by unfold us;rfl
attribute [irreducible] z32
def pz (k:Nat):Bs:=128::yad k 0
theorem tT {k:Nat}:(pz k).length=k+1:=by simp [pz]
theorem aaF {k:Nat}:pz k++[0]=pz (k+1):=by
 unfold pz
 rw [yaL,←List.replicate_succ']
theorem aiT:pz 0=[128]:=rfl
attribute [irreducible] pz
theorem pP {M:List Nat}:∀ l:List V,(∀ x∈l,∃ u,x=.v u)→bO M l=l
 | [],_=>rfl
 | x::r,h=>by
  obtain ⟨u,rfl⟩:=h x yaO
  show V.v u::bO M r=_
  rw [pP r fun y hy=>h y (yaP _ hy)]
theorem xJ {M:List Nat} {l:Bs}:bO M (us l)=us l:=pP _ (by
 unfold us
 intro x hx
 obtain ⟨b,_,rfl⟩:=yaH.1 hx
 exact ⟨_,rfl⟩)
theorem iR {s:S8} {b:Bs} {n:Nat}:∀ x∈sC s b n,∃ u,x=V.v u:=by
 unfold sC
 intro x hx
 simp only [S8.enc,ybM,yaH,yaW,yaI,or_false] at hx
 rcases hx with (rfl|rfl|rfl|rfl|rfl|rfl|rfl|rfl)|⟨u,_,rfl⟩|rfl<;>exact ⟨_,rfl⟩
theorem Fz {M:List Nat} {s:S8} {b:Bs} {n:Nat}:bO M (sC s b n)=sC s b n:=pP _ iR
theorem dR {h:List Blk} {g:Nat→Option Nat}:∀ l:List V,(∀ x∈l,∃ u,x=.v u)→aG h g l∧wkL l (aX h g l)
 | [],_=>⟨trivial,trivial⟩
 | x::r,q=>by
  obtain ⟨u,rfl⟩:=q x yaO
  have:=dR (h:=h) (g:=g) r fun y hy=>q y (yaP _ hy)
  exact ⟨⟨trivial,this.1⟩,rfl,this.2⟩
def l8 (n i:Nat):Bs:=(yan i).map fun i=>UInt8.ofNat (8*n/2 ^ (56-8*i))
theorem akI {n i:Nat}:l8 n (i+1)=l8 n i++[UInt8.ofNat (8*n/2 ^ (56-8*i))]:=by simp [l8,ybh]
theorem Eo {n i:Nat}:(l8 n i).length=i:=by simp [l8]
theorem i3:∀ l:Bs,bytesOf (l.map by1)=some l
 | []=>rfl
 | b::r=>by
  show (bytesOf (r.map by1)).map (UInt8.ofNat ((b.toNat:Int)).toNat::·)=_
  rw [i3 r]
  simp
theorem Cg {l:Bs}:({ data:=l.toArray }:ByteArray)=sb l:=rfl
theorem aaH {n:Nat}:pz (zeros n)++l8 n 8=pad n:=by unfold pz;rfl
def oB (s:S8) (i:Nat):Bs:=(yan i).map (Ef s)++yad (32-i) 0
theorem aaS {s:S8} {i:Nat} (h:i≤32):(oB s i).length=32:=by simp [oB];omega
theorem akF {s:S8}:oB s 0=z32:=by unfold z32;rfl
theorem aeZ {s:S8}:oB s 32=(yan 32).map (Ef s):=by simp [oB]
theorem aaR {s:S8} {i:Nat} (h:i<32):(oB s i).set i (Ef s i)=oB s (i+1):=by
 unfold oB
 rw [ybs _ _ (by simp),yam,ybz,ybN,show 32-i=(32-(i+1))+1 by omega,ybO,yaA,ybh,yap]
 simp
theorem Vl {s:S8} {b:Bs} {n j:Nat} (h:j<8):(sC s b n)[j]?=some (w (wn s.l j)):=by
 unfold sC
 rw [ybt (by simp [S8.enc];omega)]
 have:j=0∨j=1∨j=2∨j=3∨j=4∨j=5∨j=6∨j=7:=by omega
 rcases this with rfl|rfl|rfl|rfl|rfl|rfl|rfl|rfl<;>rfl
set_option maxHeartbeats 2000000 in
theorem aiU (S:Stm) (m:Bs) (h:Rp S m) (hm:m.length≤576460752303423488):Ok 99 [.agg S.enc] (Is (.agg (us (sha m)))):=by
 refine ok_of lw99 (by simp) ?_
 unfold c99
 have hn:=h.n
 have hl:=h.len
 have e8:IntKind.u64.wrap (8*(S.n:Int))=((8*S.n:Nat):Int):=by
  rw [show (8*(S.n:Int))=((8*S.n:Nat):Int) by omega]
  exact dY _ _ ⟨by simp only [lo];omega,by simp only [Fx.hi];omega⟩
 simp -implicitDefEqProofs only [rX,↓rY,aA,cells?,↓reduceIte,Nat.reduceEqDiff,Nat.reduceAdd,aC,cG,isD,Nat.reduceLT,aJ,aL,Stm.enc,w32,Vn hl,e8]
 refine dB (fun k:Nat=>(⟨[(4,.sl 2 0 (k+1)),(3,n64 (8*S.n)),(2,.ptr 1 0 0),(1,.ptr 0 0 0)],[.var (sC S.st S.blk S.n),.var (us z32),.arr 1 ((pz k).map by1)],3⟩:St)) (fun k=>k≤zeros m.length) (fun k=>zeros m.length-k) 0 (yaq _) ?_ ?_
 ·exact ⟨by simp -implicitDefEqProofs only [rX,↓reduceIte,Nat.reduceEqDiff,leE],⟨bB _,bB _,by rw [aiT];exact bB _,trivial⟩,trivial,by simp -implicitDefEqProofs only [rX,aB,wfE,wfV],by simp -implicitDefEqProofs only [rX,wfB,j2,hU]⟩
 intro k hk N hN
 have ei:IntKind.i64.wrap (S.n:Int)=(S.n:Int):=dY _ _ ⟨by simp only [lo];omega,by simp only [Fx.hi];omega⟩
 have hz:=Ph m.length
 have hz2:zeros m.length<64:=by unfold zeros;omega
 have tk:yai (k+1) (yak by1 (pz k))=yak by1 (pz k):=yae (by rw [yam,tT];exact yab _)
 have b0:(yak by1 (pz k))++[[V.v (Value.int IntKind.u8 0)]]=(pz (k+1)).map by1:=by rw [←aaF,yap];rfl
 simp only [c99l0]
 simp -implicitDefEqProofs only [rX,↓rY,aA,cells?,↓reduceIte,Nat.reduceEqDiff,Nat.reduceAdd,reduceCtorEq,aC,cG,bN,bE,kill,St.kill,isD,Nat.reduceLT,Nat.reduceLeDiff,aZ,aJ,yar,Vn hl,ei,tT,tk,b0,xJ,Fz]
 intro _
 have hmod:((S.n:Int)+((k+1:Nat):Int)).tmod 64=(((m.length+1+k)%64:Nat):Int):=by
  rw [show ((S.n:Int)+((k+1:Nat):Int))=((m.length+1+k:Nat):Int) by omega]
  rfl
 refine ⟨⟨by simp only [lo];omega,by simp only [Fx.hi];omega⟩,by omega,?_⟩
 rw [hmod]
 cases hc:((((m.length+1+k)%64:Nat):Int) != 56) with
 | true =>
  have hc':(m.length+1+k)%64≠56:=by intro h;rw [h] at hc;simp at hc
  have hlt:k<zeros m.length:=by
   rcases Nat.lt_or_ge k (zeros m.length) with h|h
   ·exact h
   ·have:k=zeros m.length:=by omega
    rw [this] at hc';exact absurd hz hc'
  simp -implicitDefEqProofs only [↓rY]
  refine ⟨by omega,hN _ (k+1) (by omega) (by omega) ?_⟩
  exact ⟨by simp -implicitDefEqProofs only [rX,↓reduceIte,Nat.reduceEqDiff,leE],⟨bB _,bB _,bB _,trivial⟩,trivial,by simp -implicitDefEqProofs only [rX,aB,wfE,wfV],by simp -implicitDefEqProofs only [rX,wfB,j2,hU]⟩
 | false =>
  have hc':(m.length+1+k)%64=56:=by
   have h2:¬((((m.length+1+k)%64:Nat):Int)≠56):=fun h=>by rw [bne_iff_ne.2 h] at hc;cases hc
   omega
  have hke:k=zeros m.length:=by omega
  simp -implicitDefEqProofs only [↓rY]
  clear hN N hmod tk b0 hk
  refine dB (fun i:Nat=>(⟨[(23,.i i),(4,.sl 2 0 (k+1+i)),(3,n64 (8*S.n)),(2,.ptr 1 0 0),(1,.ptr 0 0 0)],[.var (sC S.st S.blk S.n),.var (us z32),.arr 1 ((pz k++l8 m.length i).map by1)],3⟩:St)) (fun i=>i≤8) (fun i=>8-i) 0 (yaq _) ?_ ?_
  ·exact ⟨by simp -implicitDefEqProofs only [rX,↓reduceIte,Nat.reduceEqDiff,leE];rfl,⟨bB _,bB _,by rw [show l8 m.length 0=[] from rfl,yao];exact bB _,trivial⟩,trivial,by simp -implicitDefEqProofs only [rX,aB,wfE,wfV],by simp -implicitDefEqProofs only [rX,wfB,j2,hU]⟩
  intro i hi N hN
  simp only [c99l1]
  simp -implicitDefEqProofs only [rX,↓rY,aA,cells?,↓reduceIte,Nat.reduceEqDiff,Nat.reduceAdd,reduceCtorEq,aC,cG,bN,bE,kill,St.kill,isD,Nat.reduceLT,Nat.reduceLeDiff,aZ,aJ,yar]
  cases h1:decide ((i:Int)<8) with
  | true =>
   have h1':=of_decide_eq_true h1
   have sh:∀ {K:V→Prop},cS .shr .u64 ((8*S.n:Nat):Int) (56-8*(i:Int)) K=K (.v (.int .u64 ((8*S.n/2 ^ (56-8*i):Nat):Int))):=by
    intro K
    have h:cS .shr .u64 ((8*S.n:Nat):Int) (56-8*(i:Int)) K=(0≤(56-8*(i:Int))∧K (.v (.int .u64 (Int.fdiv ((8*S.n:Nat):Int) (2 ^ (min (56-8*(i:Int)).toNat 64)))))):=rfl
    rw [h,show (56-8*(i:Int)).toNat=56-8*i by omega,ybo (by omega)]
    have h2:(2:Int) ^ (56-8*i)=((2 ^ (56-8*i):Nat):Int):=by simp
    rw [h2,yba _ (yaU _),←Int.natCast_ediv]
    exact propext ⟨fun h=>h.2,fun h=>⟨by omega,h⟩⟩
   have cv:IntKind.u8.wrap ((8*S.n/2 ^ (56-8*i):Nat):Int)=((UInt8.ofNat (8*m.length/2 ^ (56-8*i))).toNat:Int):=by
    rw [hn,UInt8.toNat_ofNat']
    simp [IntKind.wrap,IntKind.bits,IntKind.signed]
   simp -implicitDefEqProofs only [rX,↓rY,kill,St.kill,↓sh,cv,xJ,Fz,tT,Eo]
   have tk2:yai (k+1+i) (yak by1 (pz k++l8 m.length i))=yak by1 (pz k++l8 m.length i):=yae (by rw [yam,yah,tT,Eo];exact yab _)
   rw [tk2]
   refine ⟨⟨by simp only [lo];omega,by simp only [Fx.hi];omega⟩,⟨by simp only [lo];omega,by simp only [Fx.hi];omega⟩,by omega,⟨by simp only [lo];omega,by simp only [Fx.hi];omega⟩,?_⟩
   refine hN _ (i+1) (by omega) (by omega) ?_
   exact ⟨by simp -implicitDefEqProofs only [rX,↓reduceIte,Nat.reduceEqDiff,leE];simp;omega,⟨bB _,bB _,by rw [akI,←yaF,yap (l₂:=[_])];exact bB _,trivial⟩,trivial,by simp -implicitDefEqProofs only [rX,aB,wfE,wfV],by simp -implicitDefEqProofs only [rX,wfB,j2,hU]⟩
  | false =>
   have h1':=of_decide_eq_false h1
   have:i=8:=by omega
   subst this
   have tk2:yai (k+1+8) (yak by1 (pz k++l8 m.length 8))=yak by1 (pz k++l8 m.length 8):=yae (by rw [yam,yah,tT,Eo];exact yab _)
   simp -implicitDefEqProofs only [rX,↓rY,tk2,i3,Cg,k6 hl,eR hl,tT,Eo]
   refine ⟨.inr trivial,?_⟩
   clear hN N
   have hpd:pz k++l8 m.length 8=pad m.length:=by rw [hke];exact aaH
   rw [hpd]
   refine sV _ _ _ (aaJ S m (pad m.length) h (by simp [pad,len8];omega)) ⟨⟨(dR _ iR).1,trivial,trivial⟩,(dR _ iR).2,rfl,trivial⟩ (fun g=>by simp only [ren,Stm.enc,vY]) trivial ?_
   intro S' hS'
   have hl':=hS'.len
   have hst':S'.st=acV m:=hS'.st
   simp -implicitDefEqProofs only [rX,↓rY,aA,cells?,splice,↓reduceIte,Nat.reduceEqDiff,Nat.reduceAdd,aC,aZ,aJ,Stm.enc,k6 hl',eR hl',Vp,eR hl,xU hl,w32]
   refine dB (fun i:Nat=>(⟨[(40,.i i),(6,.ptr 3 0 0),(2,.ptr 1 0 0),(1,.ptr 0 0 0)],[.var (sC S'.st S'.blk S'.n),.var (us z32),.arr 1 ((pad m.length).map by1),.var (us (oB S'.st i))],4⟩:St)) (fun i=>i≤32) (fun i=>32-i) 0 (yaq _) ?_ ?_
   ·exact ⟨by simp -implicitDefEqProofs only [rX,↓reduceIte,Nat.reduceEqDiff,leE];rfl,⟨bB _,bB _,bB _,by rw [akF];exact bB _,trivial⟩,trivial,by simp -implicitDefEqProofs only [rX,aB,wfE,wfV],by simp -implicitDefEqProofs only [rX,wfB,j2,hU]⟩
   intro i hi N hN
   simp only [c99l2]
   simp -implicitDefEqProofs only [rX,↓rY,aA,cells?,splice,↓reduceIte,Nat.reduceEqDiff,Nat.reduceAdd,aQ,aU,wfV,isC,yaa,aZ,yar]
   cases h1:decide ((i:Int)<32) with
   | true =>
    have h1':=of_decide_eq_true h1
    have lo':(oB S'.st i).length=32:=aaS hi
    have ed:Int.tdiv (i:Int) 4=((i/4:Nat):Int):=rfl
    have er:Int.tmod (i:Int) 4=((i%4:Nat):Int):=rfl
    have es:(24-8*((i%4:Nat):Int))=((24-8*(i%4):Nat):Int):=by omega
    have sh:∀ {x:W} {K:V→Prop},cS .shr .u32 (x.toNat:Int) ((24-8*(i%4):Nat):Int) K=K (w (x >>> (24-8*(i%4)))):=fun {x K}=>Fh (by omega)
    have cv:IntKind.u8.wrap ((wn S'.st.l (i/4) >>> (24-8*(i%4))).toNat:Int)=((Ef S'.st i).toNat:Int):=by
     unfold Ef
     rw [UInt8.toNat_ofNat',yca,ycb]
     simp [IntKind.wrap,IntKind.bits,IntKind.signed]
    have sp:∀ x:UInt8,yai i (us (oB S'.st i))++[u8 x]++yaJ (i+1) (us (oB S'.st i))=us ((oB S'.st i).set i x):=fun x=>Zn (by omega)
    simp -implicitDefEqProofs only [rX,↓rY,Nat.reduceLeDiff,yaa,ed,er,es,↓sh,Vl (show i/4<8 by omega),cv,sp,pD,lo']
    refine ⟨by omega,⟨by simp only [lo];omega,by simp only [Fx.hi];omega⟩,by omega,by omega,⟨by simp only [lo];omega,by simp only [Fx.hi];omega⟩,⟨by simp only [lo];omega,by simp only [Fx.hi];omega⟩,by omega,by omega,⟨by simp only [lo];omega,by simp only [Fx.hi];omega⟩,?_⟩
    refine hN _ (i+1) (by omega) (by omega) ?_
    rw [aaR (by omega)]
    exact ⟨by simp -implicitDefEqProofs only [rX,↓reduceIte,Nat.reduceEqDiff,leE];simp,bV _,trivial,by simp -implicitDefEqProofs only [rX,aB,wfE,wfV],by simp -implicitDefEqProofs only [rX,wfB,j2,hU]⟩
   | false =>
    have h1':=of_decide_eq_false h1
    have:i=32:=by omega
    subst this
    have l32:((yan 32).map (Ef S'.st)).length=32:=by simp
    have tk3:(us ((yan 32).map (Ef S'.st))).take 32=us ((yan 32).map (Ef S'.st)):=yae (by rw [pD,l32];exact yab _)
    have dk3:(us z32).drop 32=[]:=yaz (by rw [pD,vW];exact yab _)
    simp -implicitDefEqProofs only [rX,↓rY,aeZ,tk3,pD,l32,Ng,vW,dk3,hU]
    rw [hst']
    rfl
set_option maxRecDepth 20000
set_option maxRecDepth 20000
theorem aaZ:iv.enc=[.v (.int .u32 1779033703),.v (.int .u32 3144134277),.v (.int .u32 1013904242),.v (.int .u32 2773480762),.v (.int .u32 1359893119),.v (.int .u32 2600822924),.v (.int .u32 528734635),.v (.int .u32 1541459225)]:=rfl
theorem n5:((5:Nat):Int)=5:=rfl
theorem n6:((6:Nat):Int)=6:=rfl
theorem n7:((7:Nat):Int)=7:=rfl
set_option maxRecDepth 20000
theorem Eb {m:Bs}:(sha m).length=32:=by simp [sha]
def z16:Bs:=yad 16 0
theorem Dl:z16.length=16:=rfl
theorem w16:yak V.v (ybK 16 (Value.int IntKind.u8 0)).toList=us z16:=by unfold us;rfl
attribute [irreducible] z16
def cp (l:Bs) (i:Nat):Bs:=l.take i++yad (16-i) 0
set_option maxRecDepth 20000
def S0:Stm:=⟨iv,yad 64 0,0⟩
theorem rp0:Rp S0 []:=⟨rfl,rfl,rfl,rfl⟩
theorem acK:S0.enc=iv.enc++(yad 64 (u8 0)++[n64 0]):=by unfold Stm.enc sC;rfl
theorem Pi:pC.toList.length=73:=rfl
set_option maxHeartbeats 2000000 in
theorem aiW:Ok 96 [] (Is (.agg S0.enc)):=by
 refine ok_of lw96 (by simp) ?_
 unfold c96
 simp -implicitDefEqProofs only [rX,↓rY,aA,cells?,splice,↓reduceIte,Nat.reduceAdd,reduceCtorEq,aC,bU,aQ,aU,wfV,isC,Nat.reduceLeDiff,aZ,aL,acK,aaZ,Pi]
 refine ⟨yab _,?_,?_⟩
 ·simp [wfL,wfV]
 ·rfl
end Go.Fx.E
namespace Go.Fx.E
open Go Go.Fx
def zz (x:Int):Nat:=if 0≤x then (2*x).toNat else (-2*x-1).toNat
def vi (n:Nat):Bs:=if h:n<128 then [UInt8.ofNat n] else UInt8.ofNat (n%128+128)::vi (n/128)
termination_by n
decreasing_by omega
def nB (x:Int):Bs:=vi (zz x)
def tB (t:Bs):Bs:=nB t.length++t
def lB (l:List Int):Bs:=nB l.length++(l.map nB).flatten
def inB (k:Int) (l:List Bs):Bs:=UInt8.ofNat (k%256).toNat::(l.map tB).flatten
def lK (k:Int) (l:List Bs):Bs:=(sha (inB k l)).take 16
theorem Pr {n:Nat} (h:n<128):vi n=[UInt8.ofNat n]:=by rw [vi,dif_pos h]
theorem Xu {n:Nat} (h:¬n<128):vi n=UInt8.ofNat (n%128+128)::vi (n/128):=by rw [vi,dif_neg h]
theorem Pg {x:Int} (hx:-9223372036854775808≤x∧x≤9223372036854775807):zz x<18446744073709551616:=by unfold zz;split<;>omega
theorem wrap64 {x:Int}:IntKind.u64.wrap x=x%18446744073709551616:=by simp [IntKind.wrap,IntKind.bits,IntKind.signed]
theorem Ku {x:Int}:IntKind.u8.wrap x=x%256:=by simp [IntKind.wrap,IntKind.bits,IntKind.signed]
theorem Un {x:Int} (hx:-9223372036854775808≤x∧x≤9223372036854775807) :
  IntKind.u64.wrap ((yaf 64 (IntKind.u64.wrap (IntKind.u64.wrap x*2)) ^^^ yaf 64 (IntKind.u64.wrap (x.fdiv 9223372036854775808))).toNat:Int)=(zz x:Int):=by
 rw [wrap64 (x:=((BitVec.toNat _:Nat):Int))]
 have h64:∀ b:BitVec 64,((b.toNat:Nat):Int)%18446744073709551616=(b.toNat:Int):=fun b=>Int.emod_eq_of_lt (yaU _) (by have:=b.isLt;omega)
 rw [h64,wrap64,wrap64,wrap64,yba _ (by omega)]
 unfold zz
 by_cases h:0≤x
 ·rw [if_pos h,show x/9223372036854775808=0 by omega,show x%18446744073709551616*2%18446744073709551616=2*x by omega]
  simp only [Int.zero_emod,BitVec.ofInt_ofNat,BitVec.xor_zero,ybA]
  omega
 ·rw [if_neg h,show x/9223372036854775808=-1 by omega,show x%18446744073709551616*2%18446744073709551616=2*x+18446744073709551616 by omega,show (-1:Int)%18446744073709551616=18446744073709551615 from rfl]
  have e1:yaf 64 18446744073709551615=BitVec.allOnes 64:=ybZ (by rw [ybA,BitVec.toNat_allOnes];omega)
  rw [e1,BitVec.xor_allOnes,BitVec.toNat_not,ybA]
  omega
theorem adW {n:Nat} (h:n<18446744073709551616):IntKind.u8.wrap ((yaf 8 (IntKind.u8.wrap (n:Int)) ||| yaf 8 128).toNat:Int)=((UInt8.ofNat (n%128+128)).toNat:Int):=by
 rw [Ku,Ku]
 have h8:∀ b:BitVec 8,((b.toNat:Nat):Int)%256=(b.toNat:Int):=fun b=>Int.emod_eq_of_lt (yaU _) (by have:=b.isLt;omega)
 rw [h8]
 have key:∀ m:Fin 256,(yaT 8 m.val ||| 128#8).toNat=m.val%128+128:=by decide +kernel
 have:=key ⟨n%256,by omega⟩
 simp only at this
 have e:yaf 8 ((n:Int)%256)=yaT 8 (n%256):=by
  rw [show ((n:Int)%256)=((n%256:Nat):Int) by omega,ybY]
 rw [e,show yaf 8 128=128#8 by rfl,this,UInt8.toNat_ofNat']
 omega
theorem Px {n:Nat} (h:n<128):IntKind.u8.wrap (n:Int)=((UInt8.ofNat n).toNat:Int):=by
 rw [Ku,UInt8.toNat_ofNat'];omega
theorem Lf:∀ (k n:Nat),n<128 ^ (k+1)→(vi n).length≤k+1
 | 0,n,h=>by rw [Pr (by omega)];simp
 | k+1,n,h=>by
  by_cases hn:n<128
  ·rw [Pr hn];simp
  ·rw [Xu hn,yav]
   have:=Lf k (n/128) (by rw [Nat.div_lt_iff_lt_mul (by omega),←Nat.pow_succ];exact h)
   omega
theorem Ps {n:Nat} (h:n<18446744073709551616):(vi n).length≤10:=Lf 9 n (by omega)
theorem yW {x:Int} (hx:-9223372036854775808≤x∧x≤9223372036854775807):(nB x).length≤10:=Ps (Pg hx)
open Go Go.Fx Go.Proofs
set_option maxRecDepth 20000
theorem aiC {a b:Int} {K:V→Prop}:cS .shl .u64 a b K=(0≤b∧K (.v (.int .u64 (IntKind.u64.wrap (a*2 ^ (min b.toNat 64)))))):=rfl
theorem aiB {a b:Int} {K:V→Prop}:cS .shr .u64 a b K=(0≤b∧K (.v (.int .u64 (a.fdiv (2 ^ (min b.toNat 64)))))):=rfl
theorem sri {a b:Int} {K:V→Prop}:cS .shr .i64 a b K=(0≤b∧K (.v (.int .i64 (a.fdiv (2 ^ (min b.toNat 64)))))):=rfl
theorem ahX {a c:Int} {K:V→Prop} {x:Bool}:cO .xor x .u64 a c K=K (.v (.int .u64 (IntKind.u64.wrap ((yaf 64 a ^^^ yaf 64 c).toNat:Int)))):=rfl
theorem or8 {a c:Int} {K:V→Prop} {x:Bool}:cO .or x .u8 a c K=K (.v (.int .u8 (IntKind.u8.wrap ((yaf 8 a ||| yaf 8 c).toNat:Int)))):=rfl
theorem p1:(2:Int) ^ (min (1:Int).toNat 64)=2:=rfl
theorem p63:(2:Int) ^ (min (63:Int).toNat 64)=9223372036854775808:=rfl
theorem p7:(2:Int) ^ (min (7:Int).toNat 64)=128:=rfl
theorem Gy {fx:List Nat} {f:(St→Prop)→St→Prop} {s s0:St} (hgh:eK fx s s0) {G:Type} (pat:G→St) (I:G→Prop) (μ:G→Nat) (g:G) (h0:I g) (h1:leS fx s0 (pat g))
  (h:∀ g,I g→∀ N:St→Prop,(∀ s' g',I g'→μ g'<μ g→leS fx s' (pat g')→N s')→f N (pat g)):y0 fx f s :=
 fU hgh pat I μ g h0 h1 fun g hg=>h g hg _ fun s' g' a b c=>⟨g',⟨a,b⟩,c⟩
theorem afW {n:Nat}:((n:Int).fdiv 128)=((n/128:Nat):Int):=by rw [yba _ (by omega)];rfl
structure VI (x:Nat) (g:Bs × Nat):Prop where
 e:vi x=g.1++vi g.2
 lt:g.2<18446744073709551616
 len:g.1.length≤10
theorem VI.next {x:Nat} {L:Bs} {n:Nat} (h:VI x (L,n)) (hx:x<18446744073709551616) (hn:¬n<128):VI x (L++[UInt8.ofNat (n%128+128)],n/128):=by
 have he:=h.e
 have hl:=Ps hx
 have:=h.lt
 simp only at he this
 rw [Xu hn] at he
 refine ⟨by simp only;rw [he];simp,by simp only;omega,?_⟩
 rw [he] at hl
 simp only [yah,yav,yaB] at hl ⊢
 omega
set_option maxHeartbeats 1000000 in
theorem Rm (x:Int) (hx:-9223372036854775808≤x∧x≤9223372036854775807):Ok 102 [.i x] (IsA (.sl 0 0 (nB x).length) [.arr 1 ((nB x).map by1)]):=by
 refine ok_of lw102 (by simp) ?_
 unfold c102
 simp -implicitDefEqProofs only [rX,aA,↓reduceIte,Nat.reduceEqDiff,reduceCtorEq,aJ,aL,↓aiC,↓sri,↓ahX,p1,p63,Un hx]
 refine ⟨by omega,by omega,?_⟩
 refine Gy (.virt 1 1 (by decide) (.nilE 4 0 rfl (.refl _))) (fun g:Bs × Nat=>(⟨[(4,.sl 0 0 g.1.length),(3,n64 g.2)],[.arr 1 (g.1.map by1)],0⟩:St)) (VI (zz x)) (fun g=>g.2) ([],zz x) ⟨rfl,Pg hx,by simp⟩ ?_ ?_
 ·exact ⟨by simp -implicitDefEqProofs only [rX,↓reduceIte,Nat.reduceEqDiff,leE],bV _,trivial,by simp -implicitDefEqProofs only [rX,aB,wfE,wfV],by simp -implicitDefEqProofs only [wfB]⟩
 rintro ⟨L,n⟩ hI N hN
 have hlt:=hI.lt
 have hlen:=hI.len
 have he:=hI.e
 simp only at hlt hlen he
 have tk:yai L.length (yak by1 L)=yak by1 L:=yae (by rw [yam];exact yab _)
 simp only [c102l0]
 simp -implicitDefEqProofs only [rX,↓rY,aA,cells?,↓reduceIte,Nat.reduceEqDiff,Nat.reduceAdd,reduceCtorEq,aC,cG,bN,bE,kill,St.kill,isD,Nat.reduceLT,Nat.reduceLeDiff,aZ,aJ,yar]
 cases h1:decide ((n:Int)>127) with
 | true =>
  have h1':=of_decide_eq_true h1
  simp -implicitDefEqProofs only [rX,↓rY,kill,St.kill,isD,↓or8,↓aiB,p7,adW hlt,afW,tk]
  refine ⟨by omega,by omega,hN _ (L++[UInt8.ofNat (n%128+128)],n/128) (hI.next (Pg hx) (by omega)) (by simp only;omega) ?_⟩
  exact ⟨by simp -implicitDefEqProofs only [rX,↓reduceIte,Nat.reduceEqDiff,leE],⟨by rw [yap];exact bB _,trivial⟩,trivial,by simp -implicitDefEqProofs only [rX,aB,wfE,wfV],by simp -implicitDefEqProofs only [wfB]⟩
 | false =>
  have h1':=of_decide_eq_false h1
  have hv:nB x=L++[UInt8.ofNat n]:=by unfold nB;rw [he,Pr (by omega)]
  simp -implicitDefEqProofs only [↓rY,Px (show n<128 by omega),tk]
  refine ⟨by omega,?_⟩
  simp -implicitDefEqProofs only [rX,↓reduceIte,aQ,aU,leH,leB,aD,aB,wfB,wfV,Nat.reduceLeDiff,cQ,hv,yap]
  rfl
set_option maxRecDepth 20000
theorem It {t:Bs} (h:t.length≤140737488355000):(tB t).length≤t.length+10:=by
 have:=yW (x:=(t.length:Int)) (by omega)
 simp only [tB,yah];omega
set_option maxHeartbeats 1000000 in
theorem aiV (t:Bs) (ht:t.length≤140737488355000):Ok 98 [sv t] (IsA (.sl 1 0 (tB t).length) [.dead,.arr 1 ((tB t).map by1)]):=by
 refine ok_of lw98 (by simp) ?_
 unfold c98
 simp -implicitDefEqProofs only [rX,↓rY,aA,↓reduceIte,reduceCtorEq,mT,aL]
 have hn:-9223372036854775808≤((t.length:Nat):Int)∧((t.length:Nat):Int)≤9223372036854775807:=by omega
 have hl:=yW hn
 have tk:yai (nB t.length).length (yak by1 (nB t.length))=yak by1 (nB t.length):=yae (by rw [yam];exact yab _)
 refine fC _ _ (.sl 1 0 (nB t.length).length) _ [.arr 1 ((nB t.length).map by1)] (Rm (t.length:Int) hn) (by simp [aG,aK,aX,bQ,wkL,wk,wkR,mT]) (by simp [ren]) (by simp [cB]) trivial ?_
 simp -implicitDefEqProofs only [rX,↓rY,↓reduceIte,Nat.reduceEqDiff,Nat.reduceAdd,reduceCtorEq,aQ,aU,leH,leB,aD,aB,wfB,wfV,bN,bE,kill,St.kill,Nat.reduceLeDiff,aZ,aJ,yar,Zv,cQ,tk,tB,yap]
 omega
def i1 (x:Int):List V:=[.i x]
theorem akL {x:Int}:(i1 x)[0]?=some (.i x):=rfl
abbrev bI (l:List Int):V:=.bro 1 (l.map i1)
def In64 (l:List Int):Prop:=∀ x∈l,-9223372036854775808≤x∧x≤9223372036854775807
def lBk (l:List Int) (k:Nat):Bs:=nB l.length++((l.take k).map nB).flatten
theorem Sb {l:List Int}:lBk l 0=nB l.length:=by simp [lBk]
theorem Sa {l:List Int} {k:Nat} (h:k<l.length):lBk l (k+1)=lBk l k++nB l[k]:=by
 unfold lBk
 rw [←ycf h,yap,ybB,yaF]
 simp
theorem Mm {l:List Int}:lBk l l.length=lB l:=by simp [lBk,lB]
theorem En {l:List Int} (hl:In64 l) (hn:l.length≤1000000000000):∀ {k:Nat},k≤l.length→(lBk l k).length≤10+10*k
 | 0,_=>by rw [Sb];exact yW (by omega)
 | k+1,h=>by
  rw [Sa h,yah]
  have:=En hl hn (k:=k) (by omega)
  have:=yW (hl _ (yat h))
  omega
theorem Sc {l:List Int} (hl:In64 l) (hn:l.length≤1000000000000):(lB l).length≤10+10*l.length:=by rw [←Mm];exact En hl hn (yab _)
attribute [irreducible] lBk
set_option maxHeartbeats 1000000 in
theorem aeX (l:List Int) (hl:In64 l) (hn:l.length≤1000000000000):Ok 101 [bI l,.clo 102 []] (IsA (.sl 0 0 (lB l).length) [.arr 1 ((lB l).map by1)]):=by
 refine ok_of lw101 (by simp) ?_
 unfold c101
 simp -implicitDefEqProofs only [rX,↓rY,aA,↓reduceIte,reduceCtorEq,aL]
 intro _
 refine fC _ _ (.sl 0 0 (nB l.length).length) _ [.arr 1 ((nB l.length).map by1)] (Rm (l.length:Int) (by omega)) (by simp [aG,aK,aX,bQ,wkL,wk,wkR,mT]) (by simp [ren]) (by simp [cB]) trivial ?_
 simp -implicitDefEqProofs only [rX,↓rY,aA,↓reduceIte,reduceCtorEq,aJ]
 intro _
 refine dB (fun k:Nat=>(⟨[(13,.i k),(12,.i l.length),(11,bI l),(5,.sl 0 0 (lBk l k).length),(1,.clo 102 [])],[.arr 1 ((lBk l k).map by1)],0⟩:St)) (fun k=>k≤l.length) (fun k=>l.length-k) 0 (yaq _) ?_ ?_
 ·exact ⟨by simp -implicitDefEqProofs only [rX,↓reduceIte,Nat.reduceEqDiff,reduceCtorEq,leE,Sb];rfl,⟨by rw [Sb];exact bB _,trivial⟩,trivial,by simp -implicitDefEqProofs only [rX,aB,wfE,wfV,wfL],by simp -implicitDefEqProofs only [wfB]⟩
 intro k hk N hN
 have hbl:=En hl hn hk
 have tk:yai (lBk l k).length (yak by1 (lBk l k))=yak by1 (lBk l k):=yae (by rw [yam];exact yab _)
 simp only [c101l0]
 simp -implicitDefEqProofs only [rX,↓rY,↓reduceIte,Nat.reduceEqDiff,yac,yaa]
 cases h1:decide ((k:Int)<(l.length:Int)) with
 | true =>
  have h1':=of_decide_eq_true h1
  have hk':k<l.length:=by omega
  have hx:=hl _ (yat hk')
  have hb2:=yW hx
  simp -implicitDefEqProofs only [↓rY,yal hk',akL]
  refine ⟨by omega,hk',?_⟩
  refine fC _ _ (.sl 2 0 (nB l[k]).length) _ [.arr 1 ((nB l[k]).map by1)] (Rm l[k] hx) (by simp [aG,aK,aX,bQ,wkL,wk,wkR,mT]) (by simp [ren]) (by simp [cB]) trivial ?_
  have tk2:yai (nB l[k]).length (yak by1 (nB l[k]))=yak by1 (nB l[k]):=yae (by rw [yam];exact yab _)
  simp -implicitDefEqProofs only [rX,↓rY,aA,↓reduceIte,Nat.reduceEqDiff,Nat.reduceAdd,reduceCtorEq,bN,bE,kill,bO,St.kill,aZ,aJ,yar,tk,tk2]
  refine ⟨.inr trivial,by omega,⟨by simp only [lo];omega,by simp only [Fx.hi];omega⟩,hN _ (k+1) (by omega) (by omega) ?_⟩
  exact ⟨by simp -implicitDefEqProofs only [rX,↓reduceIte,Nat.reduceEqDiff,leE,Sa hk'];rfl,⟨by rw [Sa hk',yap];exact bB _,trivial⟩,trivial,by simp -implicitDefEqProofs only [rX,aB,wfE,wfV,wfL],by simp -implicitDefEqProofs only [wfB]⟩
 | false =>
  have h1':=of_decide_eq_false h1
  have:k=l.length:=by omega
  subst this
  simp -implicitDefEqProofs only [rX,↓rY,↓reduceIte,aQ,aU,leH,leB,aD,aB,wfB,wfV,Nat.reduceLeDiff,cQ,Mm]
theorem adY (l:List Int) (hl:In64 l) (hn:l.length≤1000000000000):Ok 72 [bI l] (IsA (.sl 0 0 (lB l).length) [.arr 1 ((lB l).map by1)]):=by
 refine ok_of lw72 (by simp) ?_
 unfold c72
 simp -implicitDefEqProofs only [rX,aA,↓reduceIte,reduceCtorEq,aL]
 refine fC _ _ (.sl 0 0 (lB l).length) _ [.arr 1 ((lB l).map by1)] (aeX l hl hn) (by simp [aG,aK,aX,bQ,wkL,wk,wkR,wkB]) (by simp [ren]) (by simp [cB]) trivial ?_
 simp -implicitDefEqProofs only [rX,↓reduceIte,aQ,aU,leH,leB,aD,aB,wfB,wfV,Nat.reduceLeDiff,cQ]
set_option maxRecDepth 20000
def sqL:LCode→LCode
 | .seq a _=>a
 | x=>x
def sqR:LCode→LCode
 | .seq _ b=>b
 | x=>x
def s1 (t:Bs):List V:=[sv t]
theorem aiO {t:Bs}:(s1 t)[0]?=some (sv t):=rfl
abbrev bS (l:List Bs):V:=.bro 1 (l.map s1)
def inK (k:Int) (l:List Bs) (n:Nat):Bs:=UInt8.ofNat (k%256).toNat::((l.take n).map tB).flatten
theorem Sh {k:Int} {l:List Bs} {n:Nat} (h:n<l.length):inK k l (n+1)=inK k l n++tB l[n]:=by
 unfold inK
 rw [←ycf h,yap,ybB,yaL]
 simp
theorem Mn {k:Int} {l:List Bs}:inK k l l.length=inB k l:=by simp [inK,inB]
theorem afP {k:Int} {l:List Bs}:inK k l 0=[UInt8.ofNat (k%256).toNat]:=by simp [inK]
theorem Sj {k:Int} {l:List Bs}:∀ (d n:Nat),n+d=l.length→(inK k l n).length≤(inB k l).length
 | 0,n,h=>by rw [←Mn,←h];exact yab _
 | d+1,n,h=>by
  refine ybQ ?_ (Sj d (n+1) (by omega))
  rw [Sh (by omega),yah];omega
theorem Si {k:Int} {l:List Bs} {n:Nat} (h:n<l.length):(inK k l n).length+(tB l[n]).length≤(inB k l).length∧l[n].length≤(inB k l).length:=by
 have:=Sj (k:=k) (l:=l) (l.length-(n+1)) (n+1) (by omega)
 rw [Sh h,yah] at this
 refine ⟨this,ybQ ?_ (ybQ (Nat.le_add_left _ _) this)⟩
 simp [tB]
attribute [irreducible] inK
theorem Af {k:Int} {l:List Bs}:(lK k l).length=16:=by unfold lK;rw [yas,Eb];rfl
def c70r:LCode:=sqR (sqR c70)
theorem c70_eq:c70=.seq (sqL c70) (.seq (sqL (sqR c70)) c70r):=rfl
theorem afY {k:Int}:IntKind.u8.wrap k=((UInt8.ofNat (k%256).toNat).toNat:Int):=by rw [Ku,UInt8.toNat_ofNat'];omega
set_option maxHeartbeats 2000000 in
theorem agN (k:Int) (l:List Bs) (hB:(inB k l).length≤1000000000000) (S:Stm) (hS:Rp S (inK k l 0)) (els:List (List V)) (e:Env) (b:Nat) (h1:get e 1=bS l) (h4:get e 4=.ptr 0 0 0) (h5:get e 5=.ptr 2 0 0) :
  aw (cxN Tryz.prog []) c70r (eZ [] 0 [iF.cell 4 (some 16)] (Is (.agg (us (lK k l))))) (fun _ _=>False) (eZ [] 0 [iF.cell 4 (some 16)] (Is (.agg (us (lK k l))))) ⟨e,[.var (us z16),.arr 1 els,.var S.enc],b⟩:=by
 unfold c70r
 simp -implicitDefEqProofs only [rX,↓rY,c70,sqR,aA,↓reduceIte,Nat.reduceAdd,aJ,h1]
 intro hml
 simp only [maxLen] at hml
 refine dB (fun g:Nat × Stm=>(⟨[(17,.i g.1),(16,.i l.length),(15,bS l),(5,.ptr 2 0 0),(4,.ptr 0 0 0)],[.var (us z16),.dead,.var (sC g.2.st g.2.blk g.2.n)],3⟩:St)) (fun g=>g.1≤l.length∧Rp g.2 (inK k l g.1)) (fun g=>l.length-g.1) (0,S) ⟨yaq _,hS⟩ ?_ ?_
 ·exact ⟨by simp -implicitDefEqProofs only [rX,↓reduceIte,Nat.reduceEqDiff,leE,h4,h5];rfl,⟨bB _,trivial,bB _,trivial⟩,trivial,by simp -implicitDefEqProofs only [rX,aB,wfE,wfV],by simp -implicitDefEqProofs only [rX,wfB,j2,hU]⟩
 rintro ⟨n,S⟩ ⟨hn,hS⟩ N hN
 simp only at hn hS
 have hl:=hS.len
 simp only [c70l0]
 simp -implicitDefEqProofs only [rX,↓rY,rdK,↓reduceIte,Nat.reduceEqDiff,Nat.reduceAdd,yac,yaa,aJ]
 cases h1:decide ((n:Int)<(l.length:Int)) with
 | true =>
  have h1':=of_decide_eq_true h1
  have hn':n<l.length:=by omega
  simp -implicitDefEqProofs only [rX,↓rY,yal hn',aiO,k6 hl,eR hl]
  have hp:=Si (k:=k) hn'
  refine ⟨by omega,hn',?_⟩
  refine fC _ _ (.sl 4 0 (tB l[n]).length) _ [.dead,.arr 1 ((tB l[n]).map by1)] (aiV l[n] (by omega)) (by simp [aG,aK,aX,bQ,wkL,wk,wkR,mT]) (by simp [ren]) (by simp [cB]) trivial ?_
  have tk:yai (tB l[n]).length (yak by1 (tB l[n]))=yak by1 (tB l[n]):=yae (by rw [yam];exact yab _)
  simp -implicitDefEqProofs only [rX,↓rY,↓reduceIte,Nat.reduceEqDiff,aJ,tk,i3,Cg]
  refine ⟨.inr trivial,?_⟩
  refine sV _ _ _ (aaJ S _ (tB l[n]) hS (by omega)) ⟨⟨(dR _ iR).1,trivial,trivial⟩,(dR _ iR).2,rfl,trivial⟩ (fun g=>by simp only [ren,Stm.enc,vY]) trivial ?_
  intro S' hS'
  have hl':=hS'.len
  simp -implicitDefEqProofs only [rX,↓rY,aA,cells?,splice,↓reduceIte,Nat.reduceEqDiff,Nat.reduceAdd,aJ,Stm.enc,k6 hl',eR hl',Vp,eR hl,xU hl]
  rw [←Sh hn'] at hS'
  refine ⟨⟨by simp only [lo];omega,by simp only [Fx.hi];omega⟩,hN _ (n+1,S') ⟨by simp only;omega,hS'⟩ (by simp only;omega) ?_⟩
  exact ⟨by simp -implicitDefEqProofs only [rX,↓reduceIte,Nat.reduceEqDiff,leE];rfl,⟨bB _,trivial,bB _,trivial⟩,trivial,by simp -implicitDefEqProofs only [rX,aB,wfE,wfV],by simp -implicitDefEqProofs only [rX,wfB,j2,hU]⟩
 | false =>
  have h1':=of_decide_eq_false h1
  have:n=l.length:=by omega
  subst this
  rw [Mn] at hS
  simp -implicitDefEqProofs only [rX,↓rY,k6 hl,eR hl]
  refine aE (aiU S _ hS (by omega)) ⟨⟨(dR _ iR).1,trivial⟩,(dR _ iR).2,trivial⟩ (by simp [ren,mM]) trivial ?_
  have tks:(us (sha (inB k l))).take 32=us (sha (inB k l)):=yae (by rw [pD,Eb];exact yab _)
  have dz:(us z32).drop 32=[]:=yaz (by rw [pD,vW];exact yab _)
  simp -implicitDefEqProofs only [rX,↓rY,aA,cells?,splice,↓reduceIte,Nat.reduceEqDiff,Nat.reduceAdd,aC,dU,aQ,aU,wfV,Nat.reduceLT,Nat.reduceLeDiff,aZ,w32,pD,Ng,Eb,vW,dz]
  have h16:yai 16 (yaJ (yax 0) (us (sha (inB k l))))=us (lK k l):=by rw [show yax 0=0 from rfl,yaS,Va];rfl
  have l16:=Af (k:=k) (l:=l)
  have dz6:(us z16).drop 16=[]:=yaz (by rw [pD,Dl];exact yab _)
  have tk3:(us (lK k l)).take 16=us (lK k l):=yae (by rw [pD,l16];exact yab _)
  rw [h16,pD,l16,dz6,yao,tk3,Dl]
  exact ⟨⟨⟨by omega,by omega⟩,by omega,by omega⟩,by decide,by decide,rfl,Ng,by omega,by simp,hU,rfl⟩
set_option maxHeartbeats 4000000 in
theorem ajK (k:Int) (l:List Bs) (hB:(inB k l).length≤1000000000000):Ok 70 [.i k,bS l] (Is (.agg (us (lK k l)))):=by
 refine ok_of lw70 (by simp) ?_
 have t73:∀ {S:Stm},Rp S (inK k l 0)→(S.enc).length=73∧(S.enc).take 73=S.enc∧S.enc.all isC=true:=fun {S} h=>⟨eR h.len,k6 h.len,Vp⟩
 have d73:(yak V.v pC.toList).drop 73=[]:=rfl
 have hd:UInt8.ofNat (k%256).toNat::[]=inK k l 0:=afP.symm
 have by0:by1 (UInt8.ofNat (k%256).toNat)=[V.v (.int .u8 ((UInt8.ofNat (k%256).toNat).toNat:Int))]:=rfl
 have bo:bytesOf [[V.v (.int .u8 ((UInt8.ofNat (k%256).toNat).toNat:Int))]]=some (inK k l 0):=by rw [←hd,←by0];exact i3 [_]
 have i0:(inK k l 0).length=1:=by rw [←hd];rfl
 have o97:Ok 97 [.agg S0.enc,sv (inK k l 0)] (IsQ (fun S'=>Rp S' (inK k l 0)) (fun S'=>.agg S'.enc) (fun _=>[])):=by
  have:=aaJ S0 [] (inK k l 0) rp0 (by rw [i0];decide)
  simpa using this
 rw [c70_eq]
 simp -implicitDefEqProofs only [rX,↓rY,c70,sqL,sqR,aA,cells?,↓reduceIte,Nat.reduceEqDiff,Nat.reduceAdd,reduceCtorEq,aC,cG,isD,Nat.reduceLT,aJ,aL,w16,afY,bo,Cg]
 repeat' first
  | exact agN k l hB _ (by assumption) _ _ _ rfl rfl rfl
  | refine And.intro ?_ ?_
  | (refine aE aiW ⟨trivial,trivial⟩ (by simp only [ren,Stm.enc,vY]) trivial ?_
     simp -implicitDefEqProofs only [rX,↓rY,aA,cells?,↓reduceIte,Nat.reduceEqDiff,Nat.reduceAdd,reduceCtorEq,aC,cG,isD,Nat.reduceLT,aJ,bo,Cg])
  | (refine sV _ _ _ o97 ⟨⟨(dR _ iR).1,trivial,trivial⟩,(dR _ iR).2,rfl,trivial⟩ (fun g=>by simp only [ren,Stm.enc,vY]) trivial ?_
     intro S hS
     simp -implicitDefEqProofs only [rX,↓rY,aA,cells?,splice,↓reduceIte,Nat.reduceEqDiff,Nat.reduceAdd,aC,aJ,Pi,d73,(t73 hS).1,(t73 hS).2.1,(t73 hS).2.2])
set_option maxRecDepth 20000
set_option maxRecDepth 20000
theorem cal {f:FuncId} {fn:Func} (h:Tryz.prog.funcs[f]?=some fn) (h1:(fn.name == "runtime.NumGoroutine")=false) (h2:fn.body.isNone=false):iG Tryz.prog f:=⟨fn,h,h1,h2⟩
def s1L (l:List Bs):List V:=[.ro 1 (l.map s1)]
theorem Ya {l:List Bs}:(s1L l)[0]?=some (.ro 1 (l.map s1)):=rfl
set_option maxHeartbeats 1000000 in
theorem afT (w:World):Calls Tryz.prog 100 #[.slice none 0 0,.int .i64 0] w fun e w'=>e=.returned (.slice none 0 0)∧w'=w:=by
 go_enter Tryz.func100,Tryz.ntmps100
 go_wp2
 go_ret
 exact ⟨rfl,rfl⟩
set_option maxHeartbeats 1000000 in
theorem afS (n:Nat) (h0:0<n) (hn:n≤4398046511104) (w:World):Calls Tryz.prog 100 #[.slice none 0 0,.int .i64 n] w fun e w'=>∃ G row,n≤G∧G≤9223372036854775807∧row.size=G∧e=.returned (.slice (some ⟨w.heap.size,0,none⟩) 0 G)∧w'=w.drew.alloc (.cells row 9):=by
 have hi0:Tryz.prog.info? 9=some Tryz.t9:=by kernel_rfl
 have hz0:Tryz.t9.zero=some (.string ⟨#[]⟩):=by kernel_rfl
 have hs:Tryz.t9.size=1:=by kernel_rfl
 have hb:Tryz.t9.bytes=16:=by kernel_rfl
 have hold:(Builtin.firstCells Tryz.t9.size 0 (.slice none 0 0)).run Tryz.prog w.drew=.ok ([]:List Value).toArray w.drew:=run_firstCells_none w.drew _ 0 0 0
 have hrz:∀ ty,_:=fun ty=>Lib.run_append_grow_zeros w 93 3 ty 9 Tryz.t9 _ .i64 .i64 Tryz.underlying93 Tryz.underlying3 hi0 hz0 none 0 0 [] hold n (by omega) (by omega) (by omega) (by omega) (by rw [hb];omega) (by rw [hb];exact growslice_fits (by omega) (by omega))
 simp only [yay] at hrz
 obtain ⟨G,hG⟩:∃ G,G=grownCap w n 0 9:=⟨_,rfl⟩
 have hGn:n≤G:=by rw [hG];exact grownCap_ge w _ _ _
 have hG63:G≤9223372036854775807:=by
  have:=grownCap_le_maxLen w n 0 9 (by unfold maxLen;omega)
  rw [←hG] at this
  unfold maxLen at this
  omega
 rw [←hG] at hrz
 generalize hrow:(([]:List Value).toArray++Builtin.zeroCells (Value.string ⟨#[]⟩).cells n++Builtin.zeroCells (Value.string ⟨#[]⟩).cells (G-n))=row at hrz
 have hsz:row.size=G:=by
  rw [←hrow]
  simp [Builtin.zeroCells,Value.cells]
  omega
 clear hold hG hrow
 have h1:¬((n:Int)<0):=by omega
 have h4:(n:Int)-(0-0)>0:=by omega
 have e4:(n:Int)-(0-0)=n:=by omega
 go_enter Tryz.func100,Tryz.ntmps100
 go_wp2_with (at_builtin;refine Lib.wpList_append_run _ rfl _ _ _ _ rfl _ _ rfl rfl _ _ (hrz _) ?_)
 all_goals (go_ret;exact ⟨G,hGn,hG63,row,hsz,rfl,rfl⟩)
theorem aeY (n:Nat) (hn:n≤4398046511104):Ok 100 [.nil,.i n] (IsA (.sl 0 0 0) [.arr 1 []]):=by
 refine ⟨cal Tryz.func100 (by kernel_rfl) (by kernel_rfl),?_⟩
 intro ρ X w vals hr ha
 match vals,ha with
 | [v0,v1],⟨h0,h1,_⟩ =>
 have h0':v0=.slice none 0 0:=h0
 have h1':v1=.int .i64 n:=h1
 subst h0' h1'
 have hno:∀ k,(ρ k).real=false:=fun k=>hr.out k (yaq _)
 have hown:∀ b,¬Own ρ b:=by
  rintro b ⟨k,hk,_⟩
  rw [hno k] at hk;cases hk
 rcases Nat.eq_zero_or_pos n with rfl|hp
 ·refine (afT w).mono ?_
  rintro e w' ⟨rfl,rfl⟩
  have hno':∀ k,(({ ρ 0 with sz:=1 }:Loc) |> fun L=>if k=0 then L else ρ k).real=false:=by
   intro k
   show (if k=0 then _ else ρ k:Loc).real=false
   split
   ·exact hno 0
   ·exact hno k
  refine ⟨_,.sl 0 0 0,[.arr 1 []],fun k=>if k=0 then { ρ 0 with sz:=1 } else ρ k,rfl,⟨⟨rfl,rfl⟩,yaq _⟩,⟨rfl,rfl,rfl,yab _,fun b hb ho=>⟨rfl,?_⟩⟩,⟨fun j k _ h=>?_,fun k _=>hno' k,fun k b hb=>?_,?_,fun k h=>?_,hr.xlt⟩,⟨0,yab _,yaq _,.inl ⟨rfl,_,rfl⟩⟩,fun k hk=>absurd hk (Nat.not_lt_zero _)⟩
  ·rintro ⟨k,hk,_⟩
   have:=hno' k
   simp only at this
   rw [this] at hk;cases hk
  ·have:=hno' j
   simp only at this
   rw [this] at h;cases h
  ·cases k with
   | succ k=>simp at hb
   | zero =>
    simp only [yau,ybR] at hb
    subst hb
    exact ⟨⟨rfl,by decide⟩,.inl ⟨hno 0,rfl⟩⟩
  ·rintro b ⟨k,hk,_⟩
   have:=hno' k
   simp only at this
   rw [this] at hk;cases hk
  ·have:=hno' k
   simp only at this
   rw [this] at h;cases h
 ·refine (afS n hp hn w).mono ?_
  rintro e w' ⟨G,row,g1,g2,g3,rfl,rfl⟩
  have hsize:(w.drew.alloc (.cells row 9)).heap.size=w.heap.size+1:=Array.size_push ..
  have hold:∀ b,b<w.heap.size→(w.drew.alloc (.cells row 9)).heap[b]?=w.heap[b]?:=by
   intro b hb
   simp only [World.alloc,World.drew]
   rw [Array.getElem?_push_lt (by simpa using hb),Array.getElem?_eq_getElem (by simpa using hb)]
  have hnew:(w.drew.alloc (.cells row 9)).heap[w.heap.size]?=some (.cells row 9 (0,0)):=by
   simp only [World.alloc,World.drew]
   simp
  let L0:Loc:={ ρ 0 with real:=true,blk:=w.heap.size,off:=0,sz:=1,room:=G }
  have hloc:∀ k,(if k=0 then L0 else ρ k:Loc).real=true→k=0:=by
   intro k hk
   by_cases h:k=0
   ·exact h
   ·rw [if_neg h,hno k] at hk;cases hk
  have hfr:Fr ρ w (fun k=>if k=0 then L0 else ρ k) (w.drew.alloc (.cells row 9)):=by
   refine ⟨rfl,rfl,rfl,by omega,fun b hb ho=>⟨hold b hb,?_⟩⟩
   rintro ⟨k,hk,hb2⟩
   have:=hloc k hk
   subst this
   simp only [if_pos] at hb2
   have:w.heap.size=b:=hb2
   omega
  refine ⟨_,.sl 0 0 0,[.arr 1 []],fun k=>if k=0 then L0 else ρ k,rfl,⟨⟨rfl,rfl⟩,yaq _⟩,hfr,⟨fun j k hjk h1 h2=>?_,fun k hk=>?_,fun k b hb=>?_,?_,fun k h=>?_,hr.xfr hfr⟩,⟨G,yaq _,by unfold maxLen;omega,.inr ⟨rfl,by simp [L0],by simp [L0]⟩⟩,fun k hk=>absurd hk (Nat.not_lt_zero _)⟩
  ·exact absurd ((hloc j h1).trans (hloc k h2).symm) hjk
  ·have:k≠0:=by simp at hk;omega
   simp only [if_neg this]
   exact hno k
  ·cases k with
   | succ k=>simp at hb
   | zero =>
    simp only [yau,ybR] at hb
    subst hb
    exact ⟨⟨rfl,by decide⟩,.inr ⟨rfl,row,9,hnew,g3,by simp [L0],trivial⟩⟩
  ·rintro b ⟨k,hk,hb2⟩ hX
   have:=hloc k hk
   subst this
   simp only [if_pos] at hb2
   have h3:w.heap.size=b:=hb2
   have:=hr.xlt.1 b hX
   omega
  ·have:=hloc k h
   subst this
   show w.heap.size<_
   omega
theorem Da {L:List (List Bs)} {k:Nat} (h:k<L.length):(L.take (k+1)).flatten=(L.take k).flatten++L[k]:=by
 rw [List.take_add_one,yal h,ybB];simp
theorem xC {L:List (List Bs)} {k:Nat}:(L.take k).flatten.length≤L.flatten.length:=by
 conv=>rhs;rw [←yce k L,ybB,yah]
 omega
theorem ajJ (L:List (List Bs)) (hL:L.flatten.length≤4398046511104):Ok 71 [.bro 1 (L.map s1L)] (IsA (.sl 0 0 L.flatten.length) [.arr 1 (L.flatten.map s1)]):=by
 refine ok_of lw71 (by simp) ?_
 unfold c71
 simp -implicitDefEqProofs only [rX,↓rY,aA,↓reduceIte,reduceCtorEq,aJ,aL]
 intro hm
 refine aV (fun k:Nat=>⟨[(11,.i k),(10,.i L.length),(9,.bro 1 (L.map s1L)),(3,.i (L.take k).flatten.length),(0,.bro 1 (L.map s1L))],[],0⟩) (fun k=>k≤L.length) (fun k=>L.length-k) 0 (by omega) ?_ ?_
 ·simp -implicitDefEqProofs only [rX,↓reduceIte,Nat.reduceEqDiff,reduceCtorEq,leE,leH,aD,wfE,wfB,wfV,yaj,List.flatten_nil]
 rintro k hk
 have hle:=xC (L:=L) (k:=k)
 unfold c71l0
 simp -implicitDefEqProofs only [rX,↓rY,aA,↓reduceIte,Nat.reduceEqDiff,reduceCtorEq,leE,leH,aD,wfE,wfB,wfV,yac,yaa,Ya]
 simp only [br,decide_eq_true_eq,decide_eq_false_iff_not]
 refine ⟨fun h=>?_,fun h=>?_⟩
 ·have hk':k<L.length:=by omega
  have hle2:=xC (L:=L) (k:=k+1)
  have hf:=Da hk'
  refine ⟨⟨by omega,h⟩,hk',?_⟩
  intro hm2
  have hfl:(L.take (k+1)).flatten.length=(L.take k).flatten.length+L[k].length:=by rw [hf,yah]
  refine ⟨by simp only [lo,hi];omega,fun hneg=>absurd hneg (by omega),fun _=>⟨by simp only [lo,hi,maxLen] at *;omega,k+1,⟨by omega,by omega⟩,?_⟩⟩
  rw [hfl]
  simp
 ·rw [yae (by omega)]
  refine fC [.nil,.i L.flatten.length] (.sl 0 0 0) (.sl 0 0 0) [.arr 1 []] [.arr 1 []] (aeY _ hL) ⟨⟨trivial,trivial,trivial⟩,rfl,rfl,trivial⟩ (by simp [ren]) (by simp [cB]) trivial ?_
  simp -implicitDefEqProofs only [rX,↓rY,aA,↓reduceIte,reduceCtorEq,aJ]
  intro hm2
  refine aV (fun k:Nat=>⟨[(27,.i k),(26,.i L.length),(25,.bro 1 (L.map s1L)),(6,.sl 0 0 (L.take k).flatten.length)],[.arr 1 ((L.take k).flatten.map s1)],0⟩) (fun k=>k≤L.length) (fun k=>L.length-k) 0 (by omega) ?_ ?_
  ·simp -implicitDefEqProofs only [rX,↓reduceIte,Nat.reduceEqDiff,leE,leH,leB,aD,aB,wfE,wfB,wfV,yaj,List.flatten_nil]
  rintro k hk
  have hle:=xC (L:=L) (k:=k)
  unfold c71l1
  simp -implicitDefEqProofs only [rX,↓rY,aA,↓reduceIte,Nat.reduceEqDiff,Nat.reduceAdd,aQ,aU,leE,leH,leB,aD,aB,wfE,wfB,wfV,bN,bE,kill,St.kill,Nat.reduceLeDiff,yac,yaa,aZ,aJ,Ya,cQ]
  simp only [br,decide_eq_true_eq,decide_eq_false_iff_not]
  refine ⟨fun h=>?_,fun h=>?_⟩
  ·have hk':k<L.length:=by omega
   have hle2:=xC (L:=L) (k:=k+1)
   have hf:=Da hk'
   have hfl:(L.take (k+1)).flatten.length=(L.take k).flatten.length+L[k].length:=by rw [hf,yah]
   refine ⟨⟨by omega,h⟩,hk',by simp,by omega,by simp only [lo,hi,maxLen] at *;omega,k+1,⟨by omega,by omega⟩,?_⟩
   have htk:yai (L.take k).flatten.length ((L.take k).flatten.map s1)=(L.take k).flatten.map s1:=yae (by rw [yam];exact yab _)
   rw [htk,hfl,hf,yap]
   exact ⟨⟨by simp,rfl⟩,rfl⟩
  ·rw [yae (by omega)]
   exact ⟨rfl,rfl⟩
def Ol (fx:List Nat) (v:V) (r:List Nat) (s:St) (K:St→Prop):Prop :=
 match v with
 | .sl k _ _=>Ew fx k (blk s.h k) s fun s'=>nA fx r s' K
 | _=>nA fx r s K
theorem Ag {fx:List Nat} {s:St} {K:St→Prop}:nA fx [] s K=K s:=rfl
theorem Ah {fx:List Nat} {x:Nat} {r:List Nat} {e:Env} {h:List Blk} {b:Nat} {K:St→Prop}:nA fx (x::r) ⟨e,h,b⟩ K=Ol fx (get e x) r ⟨e,h,b⟩ K:=rfl
theorem abJ {fx:List Nat} {k i n:Nat} {r:List Nat} {e:Env} {h:List Blk} {b:Nat} {K:St→Prop}:Ol fx (.sl k i n) r ⟨e,h,b⟩ K=Ew fx k (blk h k) ⟨e,h,b⟩ fun s'=>nA fx r s' K:=rfl
theorem abL {fx:List Nat} {k sz:Nat} {els:List (List V)} {e:Env} {h:List Blk} {b:Nat} {K:St→Prop}:Ew fx k (.arr sz els) ⟨e,h,b⟩ K=(k∉fx∧K ⟨Ev k sz els e,(h.map (sP k sz els)).set k .dead,b⟩):=rfl
@[congr] theorem alF {fx:List Nat} {v v':V} {r:List Nat} {s:St} {K:St→Prop} (q:v=v'):Ol fx v r s K=Ol fx v' r s K:=by rw [q]
@[congr] theorem alH {fx:List Nat} {k:Nat} {B B':Blk} {s:St} {K:St→Prop} (q:B=B'):Ew fx k B s K=Ew fx k B' s K:=by rw [q]
@[congr] theorem alG {fx xs:List Nat} {s s':St} {K:St→Prop} (q:s=s'):nA fx xs s K=nA fx xs s' K:=by rw [q]
theorem oE {cx:Cx} {e:Env} {h:List Blk} {b:Nat} {K:V→St→Prop} {xs:List Nat} {j sz n:Nat} {z:List Value} {ps:List (Nat × Operand)}:aOp cx (.litsf xs j sz n z ps) ⟨e,h,b⟩ K =
  nA (cx.fx++cx.bn) xs ⟨e,h,b⟩ fun s=>cG s.e sz (yad n (z.map .v)) ps fun els=>aC s.h (s.b+j)∧K (.sl (s.b+j) 0 n) { s with h:=s.h.set (s.b+j) (.arr sz els) }:=rfl
theorem abK {fx:List Nat} {k:Nat} {l:List (List V)} {r:List Nat} {s:St} {K:St→Prop}:Ol fx (.ro k l) r s K=nA fx r s K:=rfl
theorem Eu {fx:List Nat} {l:List V} {r:List Nat} {s:St} {K:St→Prop}:Ol fx (.agg l) r s K=nA fx r s K:=rfl
set_option maxRecDepth 20000
structure Ky where
 party:Int
 serial:Int
 sec:Bs
 fr:Int
 to:Int
def Ky.enc (k:Ky):List V:=[.i k.party,.i k.serial,sv k.sec,.i k.fr,.i k.to]
theorem y8 {k:Ky}:k.enc.length=5:=rfl
theorem sJ {k:Ky}:yai 5 k.enc=k.enc:=rfl
theorem afJ {k:Ky}:k.enc.all isC=true:=rfl
abbrev rS (l:List Bs):V:=.ro 1 (l.map s1)
def mS (k:Ky) (tag:Int) (l:List Bs):Bs:=lK tag (k.sec::(l++[k.sec]))
theorem cW {k:Ky} {tag:Int} {l:List Bs}:(mS k tag l).length=16:=Af
def acJ (k:Ky) (l:List Bs):Prop:=(inB 0 (k.sec::(l++[k.sec]))).length≤1000000000000∧l.length≤1000000
theorem Wh {a b:Int} {l:List Bs}:(inB a l).length=(inB b l).length:=rfl
theorem Pt {l:Bs} (h:l.length=16):(us l).length=16∧(us l).take 16=us l∧(us l).drop 16=[]:=⟨by rw [pD,h],yae (by rw [pD,h];exact yab _),yaz (by rw [pD,h];exact yab _)⟩
theorem Ft {k n:Nat} {els:List (List V)}:∀ l:List V,(∀ x∈l,∃ u,x=.v u)→sO k n els l=l
 | [],_=>rfl
 | x::r,h=>by
  obtain ⟨u,rfl⟩:=h x yaO
  show V.v u::sO k n els r=_
  rw [Ft r fun y hy=>h y (yaP _ hy)]
theorem oW {l:Bs}:∀ x∈us l,∃ u,x=V.v u:=by
 unfold us
 intro x hx
 obtain ⟨b,_,rfl⟩:=yaH.1 hx
 exact ⟨_,rfl⟩
theorem Zp {k n:Nat} {els:List (List V)} {l:Bs}:sO k n els (us l)=us l:=Ft _ oW
set_option maxHeartbeats 1000000 in
theorem aeD (k:Ky) (tag:Int) (l:List Bs) (hS:acJ k l):Ok 40 [.agg k.enc,.i tag,rS l] (Is (.agg (us (mS k tag l)))):=by
 refine ok_of lw40 (by simp) ?_
 unfold c40 Ky.enc
 simp -implicitDefEqProofs only [rX,↓rY,aA,cells?,↓reduceIte,Nat.reduceEqDiff,Nat.reduceAdd,reduceCtorEq,aC,cG,isD,Nat.reduceLT,aZ,aJ,aL,w16,oE,Ag,Ah,abJ,abK,abL,Ev,nW,sO,sP,Zp]
 have hLf:[[k.sec],l,[k.sec]].flatten=k.sec::(l++[k.sec]):=by simp
 have hll:(k.sec::(l++[k.sec])).length=l.length+2:=by simp
 have h71:=ajJ [[k.sec],l,[k.sec]] (by rw [hLf,hll];have:=hS.2;omega)
 rw [hLf] at h71
 refine fC [.bro 1 ([[k.sec],l,[k.sec]].map s1L)] _ (.sl 5 0 (k.sec::(l++[k.sec])).length) _ [.arr 1 ((k.sec::(l++[k.sec])).map s1)] h71 ⟨⟨yab 3,trivial⟩,⟨rfl,rfl⟩,trivial⟩ (by simp [ren]) (by simp [cB]) trivial ?_
 simp -implicitDefEqProofs only [rX,↓reduceIte,Nat.reduceEqDiff]
 refine aE (ajK tag (k.sec::(l++[k.sec])) (by rw [Wh (b:=0)];exact hS.1)) ⟨⟨trivial,by show _≤List.length _;simp,trivial⟩,rfl,⟨rfl,yae (by simp)⟩,trivial⟩ (by simp [ren,mM]) trivial ?_
 obtain ⟨u1,u2,u3⟩:=Pt (cW (k:=k) (tag:=tag) (l:=l))
 obtain ⟨z1,z2,z3⟩:=Pt Dl
 have hh:lK tag (k.sec::(l++[k.sec]))=mS k tag l:=rfl
 simp -implicitDefEqProofs only [rX,↓rY,cells?,splice,↓reduceIte,Nat.reduceEqDiff,aQ,aU,wfV,aZ,hh,u1,u2,z1,z3,Ng,hU]
end Go.Fx.E
namespace Go.Fx.P
open Go Go.Fx Go.Fx.E Go.Proofs
structure Arc where
 from_:Int
 to:Int
 cap:Int
 cost:Int
 deriving Inhabited
def Arc.enc (a:Arc):List V:=[.i a.from_,.i a.to,.i a.cap,.i a.cost]
def encI (x:Int):List V:=[.i x]
def vP (x:Bool):List V:=[.b x]
def net (n:Int) (arcs:List Arc):V:=.agg [.i n,.ro 4 (arcs.map Arc.enc)]
def li (l:List Int):V:=.ro 1 (l.map encI)
structure Fr where
 sent:Int
 cost:Int
 flow:List Int
 price:List Int
 cut:List Int
def Fr.enc (f:Fr):V:=.agg [.i f.sent,.i f.cost,li f.flow,li f.price,li f.cut]
structure s7 where
 gate:Int
 origin:Int
 n:Int
 deriving Inhabited,DecidableEq
def s7.enc (a:s7):List V:=[.i a.gate,.i a.origin,.i a.n]
structure aF where
 kind:Int
 num:Int
 cap:Int
 deriving Inhabited,DecidableEq
def aF.enc (a:aF):List V:=[.i a.kind,.i a.num,.i a.cap]
structure Road where
 from_:Int
 to:Int
 cap:Int
 cost:Int
 deriving Inhabited
def Road.enc (a:Road):List V:=[.i a.from_,.i a.to,.i a.cap,.i a.cost]
def sps (l:List aF):V:=.ro 3 (l.map aF.enc)
def rds (l:List Road):V:=.ro 4 (l.map Road.enc)
def bD (ps:List aF) (rs:List Road):V:=.agg [sps ps,rds rs]
abbrev Ok (f:FuncId) (xs:List V) (R:V→List Blk→Prop):Prop:=OkN Tryz.prog f xs [] [] R
theorem ok_of {f:FuncId} {l0 l:LCode} {rs:List iF} {nt:Nat} (hl:rlF Tryz.prog f l0=some (l,rs,nt)) {args:List V} {R:V→List Blk→Prop} (hlen:args.length≤nt)
  (h:aw (cxN Tryz.prog []) l (eZ [] 0 rs R) (fun _ _=>False) (eZ [] 0 rs R) ⟨aL 0 args,[],0⟩):Ok f args R :=
 eS pol [] hl hlen trivial (fun k hk=>by simp at hk) h
theorem enc_len (a:Arc):a.enc.length=4:=rfl
theorem fB (a:Arc):yai 4 a.enc=a.enc:=rfl
theorem oP (a:Arc):a.enc[0]?=some (.i a.from_):=rfl
theorem oO (a:Arc):a.enc[1]?=some (.i a.to):=rfl
theorem sR (a:Arc):a.enc[2]?=some (.i a.cap):=rfl
theorem u9 (a:Arc):a.enc[3]?=some (.i a.cost):=rfl
theorem fO (a:Arc):a.enc.all isC=true:=rfl
theorem Fc (a:Arc):a.enc.all isD=true:=rfl
theorem Km (a:s7):a.enc.length=3:=rfl
theorem Fk (a:s7):yai 3 a.enc=a.enc:=rfl
theorem acH (a:s7):a.enc[0]?=some (.i a.gate):=rfl
theorem acG (a:s7):a.enc[1]?=some (.i a.origin):=rfl
theorem acF (a:s7):a.enc[2]?=some (.i a.n):=rfl
theorem Ko (a:s7):a.enc.all isC=true:=rfl
theorem Kn (a:s7):a.enc.all isD=true:=rfl
theorem mQ (a:aF):a.enc.length=3:=rfl
theorem iQ (a:aF):yai 3 a.enc=a.enc:=rfl
theorem vL (a:aF):a.enc[0]?=some (.i a.kind):=rfl
theorem Vf (a:aF):a.enc[1]?=some (.i a.num):=rfl
theorem xQ (a:aF):a.enc[2]?=some (.i a.cap):=rfl
theorem nX (a:aF):a.enc.all isC=true:=rfl
theorem Iw (a:aF):a.enc.all isD=true:=rfl
theorem pW (a:Road):a.enc.length=4:=rfl
theorem mU (a:Road):yai 4 a.enc=a.enc:=rfl
theorem Ny (a:Road):a.enc[0]?=some (.i a.from_):=rfl
theorem Nx (a:Road):a.enc[1]?=some (.i a.to):=rfl
theorem Nw (a:Road):a.enc[2]?=some (.i a.cap):=rfl
theorem Nv (a:Road):a.enc[3]?=some (.i a.cost):=rfl
theorem tS (a:Road):a.enc.all isC=true:=rfl
theorem Jm (a:Road):a.enc.all isD=true:=rfl
theorem Aq (x:Int):(encI x).length=1:=rfl
theorem cR (x:Int):(encI x)[0]?=some (.i x):=rfl
theorem fG (x:Int):yaJ 1 (encI x)=[]:=rfl
theorem iY (x:Bool):yaJ 1 (vP x)=[]:=rfl
theorem Ar (x:Bool):(vP x).length=1:=rfl
theorem uF (x:Bool):(vP x)[0]?=some (.b x):=rfl
end Go.Fx.P
namespace Go.Fx.P
open Go Go.Fx Go.Fx.E Go.Proofs
set_option maxRecDepth 20000
theorem El:∀ h:List Blk,leH h h
 | []=>trivial
 | b::h=>by
  refine ⟨?_,El h⟩
  cases b<;>simp [leB]
  ·rename_i cs
   induction cs with
   | nil=>trivial
   | cons x cs ih=>exact ⟨by cases x<;>simp [leV],ih⟩
def j7 (x:aF):Prop:=(0≤x.cap∧x.cap≤1073741824)∧((x.kind=1∧0≤x.num∧x.num<64)∨((x.kind=2∨x.kind=3)∧1≤x.num∧x.num≤1073741824))
instance (x:aF):Decidable (j7 x):=by unfold j7;infer_instance
def f7 (x:aF):Bool:=decide (j7 x)
theorem Ck {x:aF} {t:Bool}:(t=true↔j7 x)→t=f7 x:=fun h=>by
 rw [Bool.eq_iff_iff,h];simp [f7]
theorem ajF (x:aF):Ok 86 [.agg x.enc] (Is (.b (f7 x))):=by
 refine ok_of lw86 (by simp) ?_
 unfold c86 aF.enc
 simp -implicitDefEqProofs only [rX,↓rY,aA,cells?,↓reduceIte,Nat.reduceEqDiff,aC,aQ,aU,wfV,cxN,aL]
 simp only [br,decide_eq_true_eq,decide_eq_false_iff_not,beq_iff_eq,beq_eq_false_iff_ne]
 have e:∀ t:Bool,(t=true↔j7 x)→t=f7 x:=fun t=>Ck
 simp only [j7] at e
 repeat' (first|(refine ⟨(0:_),?_⟩)|(refine ⟨by omega,?_⟩)|(refine And.intro ?_ ?_)|(refine (fun _=>?_)))
 all_goals (apply e;first|omega|(simp only [yaM,false_iff,decide_eq_true_eq];omega))
theorem ajN (x:aF):Ok 67 [.agg x.enc] (Is (.b (f7 x))):=by
 refine ok_of lw67 (by simp) ?_
 unfold c67 aF.enc
 simp -implicitDefEqProofs only [rX,↓rY,aA,cells?,↓reduceIte,Nat.reduceEqDiff,aC,aQ,aU,wfV,cxN,aL]
 simp only [br,decide_eq_true_eq,decide_eq_false_iff_not,beq_iff_eq,beq_eq_false_iff_ne]
 have e:∀ t:Bool,(t=true↔j7 x)→t=f7 x:=fun t=>Ck
 simp only [j7] at e
 repeat' (first|(refine ⟨(0:_),?_⟩)|(refine ⟨by omega,?_⟩)|(refine And.intro ?_ ?_)|(refine (fun _=>?_)))
 all_goals (apply e;first|omega|(simp only [yaM,false_iff,decide_eq_true_eq];omega))
def gQ (ps:List aF) (r:Road):Prop:=∃ (h1:0≤r.from_∧r.from_<ps.length) (h2:0≤r.to∧r.to<ps.length),r.from_≠r.to∧(0≤r.cap∧r.cap≤1073741824)∧(0≤r.cost∧r.cost≤1048576)∧(ps[r.from_.toNat]'(by omega)).kind≠3∧(ps[r.to.toNat]'(by omega)).kind≠1
open Classical in
noncomputable def mR (ps:List aF) (r:Road):Bool:=decide (gQ ps r)
theorem Nk {ps:List aF} {x:Road} {t:Bool}:(t=true↔gQ ps x)→t=mR ps x:=fun h=>by
 rw [Bool.eq_iff_iff,h];simp [mR]
theorem ajM (ps:List aF) (rs:List Road) (r:Road):Ok 68 [bD ps rs,.agg r.enc] (Is (.b (mR ps r))):=by
 refine ok_of lw68 (by simp) ?_
 unfold c68 bD sps rds Road.enc
 simp -implicitDefEqProofs only [rX,↓rY,aA,cells?,↓reduceIte,Nat.reduceEqDiff,Nat.reduceAdd,reduceCtorEq,aC,aQ,aU,wfV,yac,vL,cxN,aL]
 simp only [br,decide_eq_true_eq,decide_eq_false_iff_not,beq_iff_eq,beq_eq_false_iff_ne]
 have e:∀ t:Bool,(t=true↔gQ ps r)→t=mR ps r:=fun t=>Nk
 have bad:¬gQ ps r→false=mR ps r:=fun h=>by simp [mR,h]
 repeat' (first|(refine ⟨(0:_),?_⟩)|(refine ⟨by omega,?_⟩)|(refine And.intro ?_ ?_)|(refine (fun _=>?_)))
 all_goals first
  | omega
  | (apply bad;rintro ⟨h1,h2,h3,h4,h5,h6,h7⟩;omega)
  | skip
 ·rename_i h1 h2 h3 h4 h5 h6 h7 h8 h9 h10 h11
  apply e
  simp only [bne_iff_ne] at *
  exact ⟨fun h=>⟨⟨by omega,by omega⟩,⟨by omega,by omega⟩,by omega,⟨by omega,by omega⟩,⟨by omega,by omega⟩,by assumption,h⟩,fun ⟨_,_,_,_,_,_,h⟩=>h⟩
 ·rename_i hb
  apply bad
  rintro ⟨_,_,_,_,_,h,_⟩
  simp only [bne_eq_false_iff_eq] at hb
  exact h hb
end Go.Fx.P
namespace Go.Fx.P
open Go Go.Fx Go.Fx.E Go.Proofs
set_option maxRecDepth 20000
def iK (f:Nat→Int):Nat→Nat→Int
 | 0,_=>0
 | n+1,k=>if f k=0 then iK f n (k+1) else f k
theorem Al {f:Nat→Int}:∀ {n k:Nat},(∀ j,k≤j→j<k+n→f j=0)→iK f n k=0
 | 0,_,_=>rfl
 | n+1,k,h=>by
  rw [iK,if_pos (h k (by omega) (by omega))]
  exact Al fun j h1 h2=>h j (by omega) (by omega)
theorem iX {f:Nat→Int}:∀ {n k i:Nat},k≤i→i<k+n→(∀ j,k≤j→j<i→f j=0)→f i≠0→iK f n k=f i
 | 0,_,_,h1,h2,_,_=>by omega
 | n+1,k,i,h1,h2,h,hi=>by
  rw [iK]
  by_cases hk:k=i
  ·subst hk;rw [if_neg hi]
  ·rw [if_pos (h k (by omega) (by omega))]
   exact iX (by omega) (by omega) (fun j h3 h4=>h j (by omega) h4) hi
def nY (x y:aF):Bool:=x.kind==y.kind&&x.num==y.num
def twB (l:List aF) (x:aF):Bool:=l.any (nY x)
def eAt (ps:List aF) (i:Nat):Int :=
 match ps[i]? with
 | some x=>if f7 x=false then 400 else if twB (ps.take i) x then 6 else 0
 | none=>0
theorem Fd {ps:List aF} {i:Nat} (h:i<ps.length):eAt ps i=if f7 ps[i]=false then 400 else if twB (ps.take i) ps[i] then 6 else 0:=by
 rw [eAt,yal h]
open Classical in
noncomputable def fQ (ps:List aF) (rs:List Road):Int :=
 if 100<ps.length∨1500<rs.length then 2 else if iK (eAt ps) ps.length 0≠0 then iK (eAt ps) ps.length 0 else if ∀ r∈rs,gQ ps r then 0 else 400
structure PInv (ps:List aF) (k:Nat):Prop where
 h:∀ j,j<k→eAt ps j=0
structure RInv (ps:List aF) (rs:List Road) (k:Nat):Prop where
 h:∀ j (h:j<rs.length),j<k→gQ ps rs[j]
theorem Mw {ps:List aF} {rs:List Road} (h:100<ps.length∨1500<rs.length):fQ ps rs=2:=by rw [fQ,if_pos h]
theorem Mv {ps:List aF} {rs:List Road} (h1:¬100<ps.length) (h2:¬1500<rs.length) {k:Nat} (hk:k<ps.length) (hv:PInv ps k) (h:eAt ps k≠0):fQ ps rs=eAt ps k:=by
 have:iK (eAt ps) ps.length 0=eAt ps k:=iX (by omega) (by omega) (fun j _ hj=>hv.h j hj) h
 rw [fQ,if_neg (by omega),this,if_pos h]
theorem Yw {ps:List aF} {rs:List Road} (h1:¬100<ps.length) (h2:¬1500<rs.length) (hv:PInv ps ps.length) {k:Nat} (hk:k<rs.length) (h:¬gQ ps rs[k]):fQ ps rs=400:=by
 have:iK (eAt ps) ps.length 0=0:=Al fun j _ hj=>hv.h j (by omega)
 rw [fQ,if_neg (by omega),this,if_neg (by simp),if_neg]
 intro h3
 exact h (h3 _ (yat hk))
theorem Yx {ps:List aF} {rs:List Road} (h1:¬100<ps.length) (h2:¬1500<rs.length) (hv:PInv ps ps.length) (hr:RInv ps rs rs.length):fQ ps rs=0:=by
 have:iK (eAt ps) ps.length 0=0:=Al fun j _ hj=>hv.h j (by omega)
 rw [fQ,if_neg (by omega),this,if_neg (by simp),if_pos]
 intro r hr2
 obtain ⟨j,hj,rfl⟩:=ybi hr2
 exact hr.h j hj hj
theorem PInv.next {ps:List aF} {k:Nat} (hv:PInv ps k) (h:eAt ps k=0):PInv ps (k+1):=⟨fun j hj=>by
 by_cases h2:j=k
 ·subst h2;exact h
 ·exact hv.h j (by omega)⟩
theorem RInv.next {ps:List aF} {rs:List Road} {k:Nat} (hv:RInv ps rs k) (hk:k<rs.length) (h:gQ ps rs[k]):RInv ps rs (k+1):=⟨fun j hj hjk=>by
 by_cases h2:j=k
 ·subst h2;exact h
 ·exact hv.h j hj (by omega)⟩
def aaW (x:aF):Value:=.agg #[.int .i64 x.kind,.int .i64 x.num,.int .i64 0]
def vO:List aF→Nat→List (Value × V × Nat)
 | [],_=>[]
 | x::l,i=>(aaW x,.b true,i)::vO l (i+1)
theorem Hp:∀ {l:List aF} {i:Nat} {x:aF},vO (l++[x]) i=vO l i++[(aaW x,.b true,i+l.length)]
 | [],i,x=>rfl
 | y::l,i,x=>by
  simp only [yaL,vO,Hp,yav]
  rw [show i+1+l.length=i+(l.length+1) by omega]
abbrev spK:List (Nat × TypeDesc):=[(0,.int .i64),(1,.int .i64),(2,.int .i64)]
theorem uC:∀ {l:List aF} {i:Nat},pI spK (vO l i)
 | [],_=>fun e he=>by cases he
 | x::l,i=>fun e he=>by
  rcases yaW.1 he with rfl|he
  ·exact ⟨_,rfl,rfl,rfl⟩
  ·exact uC e he
theorem Mh:∀ {l:List aF} {x:aF} {i j:Nat},fI [.int .i64 x.kind,.int .i64 x.num,.int .i64 0] (vO l i) j=if twB l x then some (j+l.findIdx (nY x),.b true) else none
 | [],x,i,j=>rfl
 | y::l,x,i,j=>by
  simp only [vO,fI,aaW,Mh]
  have key:(List.zip [Value.int .i64 x.kind,.int .i64 x.num,.int .i64 0] (#[Value.int .i64 y.kind,.int .i64 y.num,.int .i64 0]:Array Value).toList).all (fun p=>eqK p.1 p.2)=nY x y:=by
   simp [eqK,nY]
  rw [key]
  cases h:nY x y with
  | true=>simp [twB,h,List.findIdx_cons]
  | false =>
   simp only [twB,List.any_cons,h,Bool.false_or,List.findIdx_cons,yaM,if_false,cond_false]
   by_cases h2:l.any (nY x)=true
   ·simp only [h2,if_true];congr 2;omega
   ·simp only [h2,yaM,if_false]
theorem Mr {h:List Blk}:∀ {l:List aF} {i:Nat},wfL h ((vO l i).map fun x=>x.2.1)
 | [],_=>by simp [vO,wfL]
 | x::l,i=>by
  simp only [vO,yaC,wfL]
  exact ⟨by simp [wfV],Mr⟩
theorem adZ (ps:List aF) (rs:List Road):Ok 65 [bD ps rs] (Is (.i (fQ ps rs))):=by
 refine ok_of lw65 (by simp) ?_
 unfold c65 bD sps rds
 simp -implicitDefEqProofs only [rX,↓rY,aA,cells?,↓reduceIte,Nat.reduceEqDiff,Nat.reduceAdd,aC,aQ,aU,wfV,cxN,aL]
 simp only [br,decide_eq_true_eq,decide_eq_false_iff_not]
 refine fun hm=>⟨fun h=>(Mw (.inl (by omega))).symm,fun h1 hm2=>⟨fun h=>(Mw (.inr (by omega))).symm,fun h2=>?_⟩⟩
 intro _
 refine aV (fun k:Nat=>⟨[(22,.i k),(21,.i ps.length),(20,.ro 3 (ps.map aF.enc)),(3,.mp 1),(1,.ptr 0 0 0)],[.var [.ro 3 (ps.map aF.enc),.ro 4 (rs.map Road.enc)],.map (vO (ps.take k) 0) k],0⟩) (fun k=>k≤ps.length∧PInv ps k) (fun k=>ps.length-k) 0 ⟨by omega,⟨by simp⟩⟩ ?_ ?_
 ·simp -implicitDefEqProofs only [rX,↓reduceIte,Nat.reduceEqDiff,leE,leH,leB,leV,bA,aD,aB,wfE,wfB,wfV,wfL,yaj,vO]
 rintro k ⟨hk,hv⟩
 unfold c65l0
 simp -implicitDefEqProofs only [rX,↓rY,aA,cells?,splice,↓reduceIte,Nat.reduceEqDiff,Nat.reduceAdd,aC,yac,mQ,iQ,nX,yaa]
 simp only [br,decide_eq_true_eq,decide_eq_false_iff_not,yaa]
 refine ⟨fun h=>?_,fun h=>?_⟩
 ·have hk:k<ps.length:=by omega
  refine ⟨⟨by omega,by omega⟩,hk,?_⟩
  refine aE (ajF ps[k]) (by simp [aG,aK,aX,bQ,wkL,wk,aF.enc,wkR]) rfl trivial ?_
  have he:=Fd hk
  cases hr:f7 ps[k] with
  | false =>
   rw [if_pos hr] at he
   simp -implicitDefEqProofs only [rX,↓rY,aA,↓reduceIte,Nat.reduceAdd,aQ,aU,wfV]
   rw [Mv (by omega) (by omega) hk hv (by omega),he]
  | true =>
   rw [if_neg (by simp [hr])] at he
   simp -implicitDefEqProofs only [rX,↓rY,aA,cells?,splice,↓reduceIte,Nat.reduceEqDiff,Nat.reduceAdd,aQ,aU,leE,leH,leB,leV,bA,aD,aB,wfE,wfB,wfV,wfL,isC,Nat.reduceLeDiff,aF.enc]
   simp only [Mh]
   refine ⟨rfl,uC,?_⟩
   cases ht:twB (ps.take k) ps[k] with
   | true =>
    rw [if_pos ht] at he
    have hc:6=fQ ps rs:=by rw [Mv (by omega) (by omega) hk hv (by omega),he]
    simp [eB,brV,br,hc]
   | false =>
    rw [if_neg (by simp [ht])] at he
    simp only [yaM,if_false,eB,aA,brV,br,false_implies,true_implies,true_and,gH]
    refine ⟨rfl,uC,by simp only [lo,hi,maxLen] at *;omega,k+1,⟨⟨by omega,hv.next he⟩,by omega⟩,by omega,?_,Mr⟩
    rw [ybj hk,Hp,yas]
    rw [show 0+min k ps.length=k by omega]
    rfl
 have hk:k=ps.length:=by omega
 subst hk
 intro hm3
 refine aV (fun k:Nat=>⟨[(39,.i k),(38,.i rs.length),(37,.ro 4 (rs.map Road.enc)),(1,.ptr 0 0 0)],[.var [.ro 3 (ps.map aF.enc),.ro 4 (rs.map Road.enc)]],0⟩) (fun k=>k≤rs.length∧RInv ps rs k) (fun k=>rs.length-k) 0 ⟨by omega,⟨by simp⟩⟩ ?_ ?_
 ·simp -implicitDefEqProofs only [rX,↓reduceIte,Nat.reduceEqDiff,leE,leH,leB,leV,bA,aD,aB,wfE,wfB,wfV,wfL,yaj]
 rintro k ⟨hk,hw⟩
 unfold c65l1
 simp -implicitDefEqProofs only [rX,↓rY,aA,cells?,splice,↓reduceIte,Nat.reduceEqDiff,Nat.reduceAdd,aC,aQ,aU,leE,leH,leB,leV,bA,aD,aB,wfE,wfB,wfV,wfL,yac,vL,pW,mU,Ny,Nx,Nw,Nv,tS,yaa]
 simp only [br,decide_eq_true_eq,decide_eq_false_iff_not,yaa]
 refine ⟨fun h=>?_,fun h=>?_⟩
 ·have hkl:k<rs.length:=by omega
  have bad:¬gQ ps rs[k]→400=fQ ps rs:=fun h=>(Yw (by omega) (by omega) hv hkl h).symm
  simp only [beq_iff_eq,beq_eq_false_iff_ne,lo,hi,maxLen] at *
  repeat' (first|(refine ⟨(k+1:_),?_⟩)|(refine ⟨by omega,?_⟩)|(refine And.intro ?_ ?_)|(refine (fun _=>?_)))
  all_goals first
   | omega
   | (apply bad;rintro ⟨⟨_,_⟩,⟨_,_⟩,_,⟨_,_⟩,⟨_,_⟩,_,_⟩;first|omega|contradiction)
   | skip
  exact hw.next hkl ⟨⟨by omega,by omega⟩,⟨by omega,by omega⟩,by assumption,⟨by omega,by omega⟩,⟨by omega,by omega⟩,by assumption,by assumption⟩
 ·have hkl:k=rs.length:=by omega
  subst hkl
  exact (Yx (by omega) (by omega) hv hw).symm
end Go.Fx.P
namespace Go.Fx.P
open Go Go.Fx Go.Fx.E Go.Proofs
set_option maxRecDepth 20000
structure acI (ps:List aF) (n k:Nat):Prop where
 h:∀ j (hn:n<ps.length) (h:j<ps.length),j<k→nY ps[n] ps[j]=false
theorem Py {ps:List aF} {n:Nat} (hn:n<ps.length) (h:acI ps n n):twB (ps.take n) ps[n]=false:=by
 rw [twB,List.any_eq_false]
 intro y hy
 obtain ⟨j,hj,rfl⟩:=ybi hy
 have:=yas (l:=ps) (i:=n)
 rw [ybP,h.h j hn (by omega) (by omega)]
 simp
theorem Vc {ps:List aF} {n k:Nat} (hn:n<ps.length) (hk:k<n) (h:nY ps[n] ps[k]=true):twB (ps.take n) ps[n]=true:=by
 rw [twB,List.any_eq_true]
 have h2:k<(ps.take n).length:=by rw [yas];omega
 exact ⟨(ps.take n)[k],yat h2,by rw [ybP];exact h⟩
theorem ajZ (ps:List aF) (rs:List Road):Ok 32 [bD ps rs] (Is (.i (fQ ps rs))):=by
 refine ok_of lw32 (by simp) ?_
 unfold c32 bD sps rds
 simp -implicitDefEqProofs only [rX,↓rY,aA,cells?,↓reduceIte,Nat.reduceEqDiff,aC,aQ,aU,wfV,cxN,aL]
 simp only [br,decide_eq_true_eq,decide_eq_false_iff_not]
 refine fun hm=>⟨fun h=>(Mw (.inl (by omega))).symm,fun h1 hm2=>⟨fun h=>(Mw (.inr (by omega))).symm,fun h2=>?_⟩⟩
 refine aV (fun k:Nat=>⟨[(3,.i k),(1,.ptr 0 0 0)],[.var [.ro 3 (ps.map aF.enc),.ro 4 (rs.map Road.enc)]],0⟩) (fun k=>k≤ps.length∧PInv ps k) (fun k=>ps.length-k) 0 ⟨by omega,⟨by simp⟩⟩ ?_ ?_
 ·simp -implicitDefEqProofs only [rX,↓reduceIte,Nat.reduceEqDiff,leE,leH,leB,leV,bA,aD,aB,wfE,wfB,wfV,wfL,yaj]
 rintro n ⟨hn,hv⟩
 unfold c32l0
 simp -implicitDefEqProofs only [rX,↓rY,aA,↓reduceIte,Nat.reduceEqDiff,yac,mQ,iQ,yaa]
 simp only [br,decide_eq_true_eq,decide_eq_false_iff_not,yaa]
 refine fun _=>⟨fun h=>?_,fun h=>?_⟩
 ·have hnl:n<ps.length:=by omega
  refine ⟨⟨by omega,by omega⟩,hnl,?_⟩
  refine aE (ajN ps[n]) (by simp [aG,aK,aX,bQ,wkL,wk,aF.enc,wkR]) rfl trivial ?_
  have he:=Fd hnl
  cases hr:f7 ps[n] with
  | false =>
   rw [if_pos hr] at he
   simp -implicitDefEqProofs only [rX,↓rY,aA,↓reduceIte,aQ,aU,wfV]
   rw [Mv (by omega) (by omega) hnl hv (by omega),he]
  | true =>
   rw [if_neg (by simp [hr])] at he
   simp -implicitDefEqProofs only [rX,↓rY,aA,↓reduceIte]
   refine aV (fun k:Nat=>⟨[(5,.i k),(3,.i n),(1,.ptr 0 0 0)],[.var [.ro 3 (ps.map aF.enc),.ro 4 (rs.map Road.enc)]],0⟩) (fun k=>k≤n∧acI ps n k) (fun k=>n-k) 0 ⟨by omega,⟨by simp⟩⟩ ?_ ?_
   ·simp -implicitDefEqProofs only [rX,↓reduceIte,Nat.reduceEqDiff,leE,leH,leB,leV,bA,aD,aB,wfE,wfB,wfV,wfL,yaj]
   rintro k ⟨hk,hw⟩
   unfold c32l1
   simp -implicitDefEqProofs only [rX,↓rY,aA,↓reduceIte,Nat.reduceEqDiff,aQ,aU,leE,leH,leB,leV,bA,aD,aB,wfE,wfB,wfV,wfL,yac,vL,Vf,yaa]
   simp only [br,decide_eq_true_eq,decide_eq_false_iff_not,yaa]
   refine ⟨fun h2=>?_,fun h2=>?_⟩
   ·have hkn:k<n:=by omega
    have bad:nY ps[n] ps[k]=true→6=fQ ps rs:=fun h3=>by
     rw [if_pos (Vc hnl hkn h3)] at he
     rw [Mv (by omega) (by omega) hnl hv (by omega),he]
    have good:nY ps[n] ps[k]=false→acI ps n (k+1):=by
     intro h3
     refine ⟨fun j h5 h6 h7=>?_⟩
     by_cases h8:j=k
     ·subst h8;exact h3
     ·exact hw.h j h5 h6 (by omega)
    simp only [nY] at bad good
    simp only [beq_iff_eq,beq_eq_false_iff_ne,ybc,Bool.and_eq_false_iff,lo,hi,maxLen] at *
    repeat' (first|(refine ⟨(k+1:_),?_⟩)|(refine ⟨by omega,?_⟩)|(refine And.intro ?_ ?_)|(refine (fun _=>?_)))
    all_goals first
     | omega
     | (apply bad;exact ⟨by omega,by omega⟩)
     | skip
    all_goals (apply good;first|(left;omega)|(right;omega))
   ·have hkn:k=n:=by omega
    subst hkn
    rw [if_neg (by simp [Py hnl hw])] at he
    exact ⟨by simp only [lo,hi,maxLen] at *;omega,k+1,⟨⟨by omega,hv.next he⟩,by omega⟩,by omega⟩
 have hk:n=ps.length:=by omega
 subst hk
 refine aV (fun k:Nat=>⟨[(6,.i k),(1,.ptr 0 0 0)],[.var [.ro 3 (ps.map aF.enc),.ro 4 (rs.map Road.enc)]],0⟩) (fun k=>k≤rs.length∧RInv ps rs k) (fun k=>rs.length-k) 0 ⟨by omega,⟨by simp⟩⟩ ?_ ?_
 ·simp -implicitDefEqProofs only [rX,↓reduceIte,Nat.reduceEqDiff,leE,leH,leB,leV,bA,aD,aB,wfE,wfB,wfV,wfL,yaj]
 rintro k ⟨hk,hw⟩
 unfold c32l2
 simp -implicitDefEqProofs only [rX,↓rY,aA,↓reduceIte,Nat.reduceEqDiff,Nat.reduceAdd,aQ,aU,wfV,yac,pW,mU,yaa]
 simp only [br,decide_eq_true_eq,decide_eq_false_iff_not,yaa]
 refine fun _=>⟨fun h=>?_,fun h=>?_⟩
 ·have hkl:k<rs.length:=by omega
  refine ⟨⟨by omega,by omega⟩,hkl,?_⟩
  refine aE (ajM ps rs rs[k]) (by simp [bD,sps,rds,aG,aK,aX,bQ,wkL,wk,Road.enc,wkR]) rfl trivial ?_
  cases hs:mR ps rs[k] with
  | true =>
   have hS:gQ ps rs[k]:=by simpa [mR] using hs
   simp -implicitDefEqProofs only [rX,↓rY,aA,↓reduceIte,Nat.reduceEqDiff,leE,leH,leB,leV,bA,aD,aB,wfE,wfB,wfV,wfL]
   exact ⟨by simp only [lo,hi,maxLen] at *;omega,k+1,⟨⟨by omega,hw.next hkl hS⟩,by omega⟩,by omega⟩
  | false =>
   have hS:¬gQ ps rs[k]:=by simpa [mR] using hs
   simp -implicitDefEqProofs only [rX,↓rY,aA,↓reduceIte,aQ,aU,wfV]
   exact (Yw (by omega) (by omega) hv hkl hS).symm
 ·have hkl:k=rs.length:=by omega
  subst hkl
  exact (Yx (by omega) (by omega) hv hw).symm
end Go.Fx.P
namespace Go.Fx.P
open Go Go.Fx Go.Fx.E Go.Proofs
set_option maxRecDepth 20000
def isK (ps:List aF) (kind:Int) (i:Nat):Bool :=
 match ps[i]? with
 | some x=>x.kind==kind
 | none=>false
theorem p6 {ps:List aF} {kind:Int} {i:Nat} (h:i<ps.length):isK ps kind i=(ps[i].kind==kind):=by
 rw [isK,yal h]
def ofN (ps:List aF) (kind:Int) (n:Nat):List Nat:=(yan n).filter (isK ps kind)
theorem j3 {ps:List aF} {kind:Int} {n:Nat}:ofN ps kind (n+1)=ofN ps kind n++(if isK ps kind n then [n] else []):=by
 rw [ofN,ybh,List.filter_append]
 by_cases h:isK ps kind n=true<;>simp [ofN,h]
theorem fF {ps:List aF} {kind:Int} {n:Nat}:(ofN ps kind n).length≤n:=by
 have:=ycg (isK ps kind) (yan n)
 rw [ybz] at this
 exact this
theorem oY {ps:List aF} {kind:Int} {n i:Nat} (h:i∈ofN ps kind n):i<n:=by
 have:=(List.mem_filter.1 h).1
 exact ybk.1 this
def nE (n:Nat):List V:=[.i n]
theorem aaU (x:Nat):(nE x)[0]?=some (.i x):=rfl
def Og (l:List Nat):V:=.ro 1 (l.map nE)
theorem aaK (ps:List aF) (rs:List Road) (kind:Int) (hl:ps.length≤100):Ok 77 [bD ps rs,.i kind] (Is (Og (ofN ps kind ps.length))):=by
 refine yT (R:=fun r hs=>wk (Og (ofN ps kind ps.length)) (gvV (fun _=>true) hs r)) ?_ fun _ _ h=>h
 refine ok_of lw77 (by simp) ?_
 unfold c77 bD sps rds
 simp -implicitDefEqProofs only [rX,↓rY,aA,cells?,↓reduceIte,Nat.reduceEqDiff,aC,cxN,aL]
 intro hm
 refine fU (.virt 1 1 (by decide) (.nilE 5 1 rfl (.refl _))) (fun k:Nat=>⟨[(11,.i k),(10,.i ps.length),(9,.ro 3 (ps.map aF.enc)),(5,.sl 1 0 (ofN ps kind k).length),(2,.ptr 0 0 0),(1,.i kind)],[.var [.ro 3 (ps.map aF.enc),.ro 4 (rs.map Road.enc)],.arr 1 ((ofN ps kind k).map nE)],0⟩) (fun k=>k≤ps.length) (fun k=>ps.length-k) 0 (by omega) ?_ ?_
 ·simp -implicitDefEqProofs only [rX,↓reduceIte,Nat.reduceEqDiff,reduceCtorEq,leE,leH,leB,leV,bA,aD,aB,wfE,wfB,wfV,wfL,yaj,ofN,ybC,ybD]
 rintro k hk
 unfold c77l0
 simp -implicitDefEqProofs only [rX,↓rY,aA,cells?,splice,↓reduceIte,Nat.reduceEqDiff,Nat.reduceAdd,reduceCtorEq,aC,cG,leE,leH,leB,leV,bA,aD,aB,wfE,wfB,wfV,wfL,bN,bE,kill,bO,St.kill,isD,Nat.reduceLT,yac,mQ,iQ,vL,nX,yaa]
 simp only [br,yaa,decide_eq_true_eq,decide_eq_false_iff_not]
 refine ⟨fun h=>⟨⟨by omega,h⟩,by omega,?_⟩,fun h=>?_⟩
 ·have hk:k<ps.length:=by omega
  have hs:=j3 (ps:=ps) (kind:=kind) (n:=k)
  have hl2:=fF (ps:=ps) (kind:=kind) (n:=k)
  rw [p6 hk] at hs
  refine ⟨fun h3=>⟨by omega,by simp only [lo,hi,maxLen] at *;omega,k+1,⟨by omega,by omega⟩,⟨by omega,?_⟩,?_⟩,fun h3=>⟨by simp only [lo,hi,maxLen] at *;omega,k+1,⟨by omega,by omega⟩,⟨by omega,?_⟩,?_⟩⟩
  ·rw [hs,h3];simp
  ·rw [hs,h3,yae (by simp)];simp [nE]
  ·rw [hs,h3];simp
  ·rw [hs,h3];simp
 ·have hk:k=ps.length:=by omega
  subst hk
  simp [qa,qb,qc,qd,qe,qf,qg,qh,qi,qj,qk,ql,qm,qn,qo,qp,qq,qr,qs,qt,qu,qv,qw,qx,qy,qz,qA,qB,qC,qD,qE,qF,qG,qH,qI,qJ,qK,qL,qM,qN,qO,qP,rdK,qQ,qR,qS,qT,qU,qV,qW,qX,qY,qZ,zb,zc,zd,ze,zf,zg,zh,zi,zj,zk,zm,zn,zo,zp,zq,zr,zt,zu,zv,zw,zx,zy,zA,zB,zC,zD,zE,zF,zG,zH,zI,zJ,zK,zL,zM,zN,zO,zP,zQ,zR,zS,zT,zU,zV,zW,zX,zY,zZ,ka,kb,kc,kg,kh,ki,kj,kk,kn,ko,kq,kr,kw,kx,ky,kz,kB,kC,kD,kF,kG,kH,kI,kJ,kK,kL,kM,kN,kO,kP,kQ,kR,kS,kT,kU,kV,kX,aA,cells?,yaB,yav,yaA,splice,kY,yag,yau,↓reduceIte,Nat.reduceEqDiff,yaw,kZ,wa,cU,wb,ybS,ybT,↓wc,↓wd,we,wg,ybe,yaL,yao,yay,Nat.reduceAdd,ybf,reduceCtorEq,aC,ybu,ybU,dU,ybV,bU,cG,wh,aQ,aU,ybv,ybw,wj,leE,leH,leB,leV,bA,aD,aB,wfE,wfB,wfV,wfL,bN,bE,kill,bO,St.kill,yaC,yaQ,yaS,yaV,ybx,ybg,yaG,yaY,isD,isC,yaR,yaK,true_and,and_true,and_self,V.v.injEq,Value.int.injEq,Value.bool.injEq,yaW,yaI,or_false,false_or,yah,yam,yaX,not_false_eq_true,yaM,Nat.reduceLT,Nat.reduceLeDiff,yab,lg0,wl,wm,wo,wq,lg1,wr,wt,wu,wv,lg2,ww,wx,wy,wz,lg3,wC,wD,wE,wF,lg4,wG,wI,wJ,wK,lg5,wL,wM,wN,wO,lg6,wP,wQ,wR,wS,lg7,wT,wU,wV,wW,lg8,wX,wY,wZ,ja,lg9,jb,jc,jd,je,jf,jg,jh,ji,jj,jk,jl,jm,jn,jo,jp,jq,jr,jt,ju,jv,jx,jy,jz,jA,jB,jC,jD,jE,jF,jG,jH,jI,jJ,jK,jL,jM,jN,jO,jP,jQ,jR,jS,jT,jU,jV,jW,jX,jY,jZ,qaa,qab,qac,qad,qae,qaf,qag,qah,qai,qaj,qak,qal,qam,qan,qao,qap,qaq,qar,↓qas,↓qat,↓qau,↓qav,↓qaw,↓qax,↓qay,↓qaz,↓qaA,↓qaB,↓qaC,↓qaD,↓qaE,↓qaF,↓qaG,↓qaH,↓qaI,↓qaJ,↓qaK,↓qaL,↓qaM,↓qaN,↓qaO,↓qaP,↓qaQ,↓qaR,↓qaS,↓qaT,↓qaU,↓qaV,↓qaW,↓qaX,↓qaY,↓qaZ,↓qba,↓qbb,↓qbc,↓qbd,↓qbe,↓qbf,↓qbg,↓qbh,↓qbi,↓qbj,↓qbk,↓qbl,↓qbm,↓qbn,↓qbo,↓qbp,↓qbq,↓qbr,↓qbs,↓qbt,↓qbu,↓qbv,↓qbw,↓qbx,↓qby,↓qbz,↓qbA,↓qbB,↓qbC,↓qbD,↓qbE,↓qbF,↓qbG,↓qbH,↓qbI,↓qbJ,↓qbK,↓qbL,↓qbM,↓qbN,↓qbO,↓qbP,↓qbQ,↓qbR,↓qbS,↓qbT,↓qbU,↓qbV,↓qbW,↓qbX,↓qbY,↓qbZ,↓qca,↓qcb,↓qcc,↓qcd,↓qce,↓qcf,↓qcg,↓qch,↓qci,↓qcj,↓qck,↓qcl,↓qcm,↓qcn,↓qco,↓qcp,↓qcq,↓qcr,↓qcs,↓qct,↓qcu,↓qcv,↓qcw,↓qcx,↓qcy,↓qcz,↓qcA,↓qcB,yam,yac,Km,Fk,acH,acG,acF,Ko,Kn,mQ,iQ,vL,Vf,xQ,nX,Iw,pW,mU,Ny,Nx,Nw,Nv,tS,Jm,enc_len,fB,oP,oO,sR,u9,fO,Fc,Aq,cR,Ar,uF,yaa,fG,iY,cxN,fN]
  exact ⟨_,⟨El _,by simp,by simp [wfB,wfL,wfV]⟩,by simp [gvV,gvL,wk,wkR,blk,Og];exact yae (by simp)⟩
def dH (ps:List aF) (i:Nat):Int :=
 match ps[i]? with
 | some x=>x.cap
 | none=>0
theorem dL {ps:List aF} {i:Nat} (h:i<ps.length):dH ps i=ps[i].cap:=by
 rw [dH,yal h]
def lI (ps:List aF) (l:List Nat):Int:=(l.map (dH ps)).sum
theorem rU {ps:List aF} {l m:List Nat}:lI ps (l++m)=lI ps l+lI ps m:=by simp [lI]
def Bh (ps:List aF):Prop:=∀ i (h:i<ps.length),0≤ps[i].cap∧ps[i].cap≤1073741824
theorem nD {ps:List aF} (h:Bh ps) (i:Nat):0≤dH ps i∧dH ps i≤1073741824:=by
 by_cases hi:i<ps.length
 ·rw [dL hi];exact h i hi
 ·rw [dH,ych (by omega)];exact ⟨Int.le_refl _,by decide⟩
theorem xP {ps:List aF} (h:Bh ps):∀ l:List Nat,0≤lI ps l∧lI ps l≤1073741824*l.length
 | []=>by simp [lI]
 | i::l=>by
  have h1:=nD h i
  have h2:=xP h l
  simp only [lI,yaC,List.sum_cons,yav] at *
  omega
def dem (ps:List aF):Int:=lI ps (ofN ps 1 ps.length)
theorem aaL (ps:List aF) (rs:List Road) (hl:ps.length≤100) (hc:Bh ps):Ok 55 [bD ps rs] (Is (.i (dem ps))):=by
 refine ok_of lw55 (by simp) ?_
 unfold c55 bD sps rds
 simp -implicitDefEqProofs only [rX,↓rY,aA,cells?,↓reduceIte,Nat.reduceEqDiff,Nat.reduceAdd,aC,cxN,aL]
 refine aE (aaK ps rs 1 hl) (by simp [bD,sps,rds,aG,aK,aX,bQ,wkL,wk,wkR]) rfl trivial ?_
 unfold Og
 simp -implicitDefEqProofs only [rX,↓rY,aA,↓reduceIte]
 intro hm
 refine aV (fun k:Nat=>⟨[(9,.i k),(8,.i (ofN ps 1 ps.length).length),(7,.ro 1 ((ofN ps 1 ps.length).map nE)),(3,.i (lI ps ((ofN ps 1 ps.length).take k))),(1,.ptr 0 0 0)],[.var [.ro 3 (ps.map aF.enc),.ro 4 (rs.map Road.enc)]],0⟩) (fun k=>k≤(ofN ps 1 ps.length).length) (fun k=>(ofN ps 1 ps.length).length-k) 0 (by omega) ?_ ?_
 ·simp -implicitDefEqProofs only [rX,↓reduceIte,Nat.reduceEqDiff,leE,leH,leB,leV,bA,aD,aB,wfE,wfB,wfV,wfL,yaj,lI,List.sum_nil]
 rintro k hk
 have hl2:=fF (ps:=ps) (kind:=1) (n:=ps.length)
 simp -implicitDefEqProofs only [rX,↓rY,aA,↓reduceIte,Nat.reduceEqDiff,aQ,aU,leE,leH,leB,leV,bA,aD,aB,wfE,wfB,wfV,wfL,yac,xQ,yaa,aaU]
 simp only [br,yaa,decide_eq_true_eq,decide_eq_false_iff_not]
 refine ⟨fun h=>⟨⟨by omega,h⟩,by omega,?_⟩,fun h=>?_⟩
 ·have hkl:k<(ofN ps 1 ps.length).length:=by omega
  have hi:(ofN ps 1 ps.length)[k]<ps.length:=oY (yat hkl)
  have hs:lI ps ((ofN ps 1 ps.length).take (k+1))=lI ps ((ofN ps 1 ps.length).take k)+ps[(ofN ps 1 ps.length)[k]].cap:=by
   rw [ybj hkl,rU]
   simp [lI,dL hi]
  have hb:=xP hc ((ofN ps 1 ps.length).take k)
  have hb2:=hc _ hi
  rw [yas] at hb
  refine ⟨⟨by omega,by omega⟩,hi,by simp only [lo,Fx.hi,maxLen] at *;omega,by simp only [lo,Fx.hi,maxLen] at *;omega,k+1,⟨by omega,by omega⟩,by omega,by rw [hs]⟩
 ·have hk:k=(ofN ps 1 ps.length).length:=by omega
  subst hk
  simp [dem]
theorem akA (ps:List aF) (rs:List Road) (hl:ps.length≤100) (hc:Bh ps):Ok 28 [bD ps rs] (Is (.i (dem ps))):=by
 refine ok_of lw28 (by simp) ?_
 unfold c28 bD sps rds
 simp -implicitDefEqProofs only [rX,↓rY,aA,cells?,↓reduceIte,aC,cxN,aL]
 refine aV (fun k:Nat=>⟨[(4,.i k),(3,.i (lI ps (ofN ps 1 k))),(1,.ptr 0 0 0)],[.var [.ro 3 (ps.map aF.enc),.ro 4 (rs.map Road.enc)]],0⟩) (fun k=>k≤ps.length) (fun k=>ps.length-k) 0 (by omega) ?_ ?_
 ·simp -implicitDefEqProofs only [rX,↓reduceIte,Nat.reduceEqDiff,leE,leH,leB,leV,bA,aD,aB,wfE,wfB,wfV,wfL,yaj,ofN,ybC,ybD,lI,List.sum_nil]
 rintro k hk
 unfold c28l0
 simp -implicitDefEqProofs only [rX,↓rY,aA,↓reduceIte,Nat.reduceEqDiff,aQ,aU,leE,leH,leB,leV,bA,aD,aB,wfE,wfB,wfV,wfL,yac,vL,xQ,yaa]
 simp only [br,yaa,decide_eq_true_eq,decide_eq_false_iff_not]
 refine fun _=>⟨fun h=>⟨⟨by omega,h⟩,by omega,?_⟩,fun h=>?_⟩
 ·have hk:k<ps.length:=by omega
  have hs:=j3 (ps:=ps) (kind:=1) (n:=k)
  rw [p6 hk] at hs
  have hl2:=fF (ps:=ps) (kind:=1) (n:=k)
  have hb:=xP hc (ofN ps 1 k)
  have hb2:=hc k hk
  have h1:lI ps [k]=ps[k].cap:=by simp [lI,dL hk]
  have h0:lI ps []=0:=rfl
  refine ⟨fun h3=>⟨⟨by omega,h⟩,hk,by simp only [lo,hi,maxLen] at *;omega,by simp only [lo,hi,maxLen] at *;omega,k+1,⟨by omega,by omega⟩,by omega,?_⟩,fun h3=>⟨by simp only [lo,hi,maxLen] at *;omega,k+1,⟨by omega,by omega⟩,by omega,?_⟩⟩
  ·rw [hs,h3,rU];simp [h1]
  ·rw [hs,h3,rU];simp [h0]
 ·have hk:k=ps.length:=by omega
  subst hk
  rfl
end Go.Fx.P
namespace Go.Fx.P
open Go Go.Fx Go.Fx.E Go.Proofs
set_option maxRecDepth 20000
def aP (ps:List aF) (i:Nat):Arc:=⟨2+2*i,3+2*i,dH ps i,0⟩
def aS (ps:List aF) (i:Nat):Arc:=⟨0,2+2*i,dH ps i,0⟩
def aO (ps:List aF) (i:Nat):Arc:=⟨3+2*i,1,dH ps i,0⟩
def aR (r:Road):Arc:=⟨3+2*r.from_,2+2*r.to,r.cap,r.cost⟩
def nA1 (ps:List aF) (n:Nat):List Arc:=(yan n).map (aP ps)
def nA2 (ps:List aF) (l:List Nat):List Arc:=nA1 ps ps.length++l.map (aS ps)
def nA3 (ps:List aF) (l:List Nat):List Arc:=nA2 ps (ofN ps 1 ps.length)++l.map (aO ps)
def nA4 (ps:List aF) (l:List Road):List Arc:=nA3 ps (ofN ps 3 ps.length)++l.map aR
def bJ (ps:List aF) (rs:List Road):List Arc:=nA4 ps rs
def lZ (ps:List aF):Int:=2+2*(ps.length:Int)
theorem o3 {ps:List aF} {n:Nat}:(nA1 ps n).length=n:=by simp [nA1]
theorem w5 {ps:List aF} {l:List Nat}:(nA2 ps l).length=ps.length+l.length:=by simp [nA2,o3]
theorem Ej {ps:List aF} {l:List Nat}:(nA3 ps l).length≤2*ps.length+l.length:=by
 have:=fF (ps:=ps) (kind:=1) (n:=ps.length)
 simp only [nA3,yah,w5,yam];omega
theorem w4 {ps:List aF} {l:List Road}:(nA4 ps l).length≤3*ps.length+l.length:=by
 have:=fF (ps:=ps) (kind:=3) (n:=ps.length)
 have:=Ej (ps:=ps) (l:=ofN ps 3 ps.length)
 simp only [nA4,yah,yam];omega
def hN (ps:List aF) (rs:List Road) (l:List Arc):List Blk :=
 [.var [.ro 3 (ps.map aF.enc),.ro 4 (rs.map Road.enc)],.var [.i 0,.nil],.var [.i (lZ ps),.sl 3 0 l.length],.arr 4 (l.map Arc.enc)]
theorem lA (l:List Arc) (a:Arc) (m:List Arc) (h:m=l++[a]):V.sl 3 0 (l.length+1)=V.sl 3 0 m.length∧Blk.arr 4 (yai l.length (l.map Arc.enc)++[[V.v (Value.int .i64 a.from_),V.v (Value.int .i64 a.to),V.v (Value.int .i64 a.cap),V.v (Value.int .i64 a.cost)]])=Blk.arr 4 (m.map Arc.enc):=by
 subst h
 refine ⟨by simp,?_⟩
 rw [yae (by simp),yap]
 rfl
theorem Yn {ps:List aF} {k:Nat} (hk:k<ps.length):nA1 ps (k+1)=nA1 ps k++[⟨2+2*k,3+2*k,ps[k].cap,0⟩]:=by
 rw [nA1,ybh,yap];simp [nA1,aP,dL hk]
theorem afD {ps:List aF} {l:List Nat} {k:Nat} (hl:k<l.length) (hk:l[k]<ps.length):nA2 ps (l.take (k+1))=nA2 ps (l.take k)++[⟨0,2+2*(l[k]:Nat),ps[l[k]].cap,0⟩]:=by
 rw [ybj hl,nA2,yap];simp [nA2,aS,dL hk]
theorem afB {ps:List aF} {l:List Nat} {k:Nat} (hl:k<l.length) (hk:l[k]<ps.length):nA3 ps (l.take (k+1))=nA3 ps (l.take k)++[⟨3+2*(l[k]:Nat),1,ps[l[k]].cap,0⟩]:=by
 rw [ybj hl,nA3,yap];simp [nA3,aO,dL hk]
theorem Ym {ps:List aF} {l:List Road} {k:Nat} (hl:k<l.length):nA4 ps (l.take (k+1))=nA4 ps (l.take k)++[⟨3+2*l[k].from_,2+2*l[k].to,l[k].cap,l[k].cost⟩]:=by
 rw [ybj hl,nA4,yap];simp [nA4,aR]
theorem aaN (ps:List aF) (rs:List Road) (hl:ps.length≤100) (hr:rs.length≤1500) (hv:RInv ps rs rs.length):Ok 51 [bD ps rs] (Is (net (lZ ps) (bJ ps rs))):=by
 refine yT (R:=fun r hs=>wk (net (lZ ps) (bJ ps rs)) (gvV (fun _=>true) hs r)) ?_ fun _ _ h=>h
 refine ok_of lw51 (by simp) ?_
 unfold c51 bD sps rds
 simp -implicitDefEqProofs only [rX,↓rY,aA,cells?,splice,↓reduceIte,Nat.reduceEqDiff,Nat.reduceAdd,aC,bU,isC,Nat.reduceLeDiff,cxN,aL]
 intro hm
 refine ⟨by simp only [lo,hi,maxLen] at *;omega,by simp only [lo,hi,maxLen] at *;omega,?_⟩
 intro _
 refine fU (.virt 1 4 (by decide) (.nilB 2 [.i (lZ ps),.nil] [.i (lZ ps),.sl 3 0 0] rfl ⟨rfl,fun i a b h1 h2=>?_⟩ (.refl _))) (fun k:Nat=>⟨[(21,.i k),(20,.i ps.length),(19,.ro 3 (ps.map aF.enc)),(3,.ptr 2 0 0),(2,.ptr 1 0 0),(1,.ptr 0 0 0)],hN ps rs (nA1 ps k),0⟩) (fun k=>k≤ps.length) (fun k=>ps.length-k) 0 (by omega) ?_ ?_
 ·match i,h1,h2 with
  | 0,h1,h2=>cases h1;cases h2;exact .inl rfl
  | 1,h1,h2=>cases h1;cases h2;exact .inr ⟨rfl,3,rfl⟩
  | n+2,h1,h2=>cases h1
 ·simp -implicitDefEqProofs only [rX,↓reduceIte,Nat.reduceEqDiff,leE,leH,leB,leV,bA,aD,aB,wfE,wfB,wfV,wfL,yaj,nA1,ybC,hN,lZ]
 ·rintro k hk
  unfold c51l0 hN
  simp -implicitDefEqProofs only [rX,↓rY,aA,cells?,splice,↓reduceIte,Nat.reduceEqDiff,Nat.reduceAdd,reduceCtorEq,aC,bU,cG,leE,leH,leB,leV,bA,aD,aB,wfE,wfB,wfV,wfL,bN,bE,kill,bO,St.kill,isD,isC,Nat.reduceLT,Nat.reduceLeDiff,yac,mQ,iQ,xQ,nX,yaa]
  simp only [br,yaa,decide_eq_true_eq,decide_eq_false_iff_not]
  refine ⟨fun h=>?_,fun h=>?_⟩
  ·have hk:k<ps.length:=by omega
   refine ⟨⟨by omega,h⟩,hk,?_⟩
   have:=o3 (ps:=ps) (n:=k)
   simp only [lo,hi,maxLen] at *
   refine ⟨by omega,by omega,by omega,by omega,by omega,by omega,k+1,⟨by omega,by omega⟩,by omega,?_⟩
   exact lA _ _ _ (Yn hk)
  have hk:k=ps.length:=by omega
  subst hk
  refine aE (aaK ps rs 1 hl) (by simp [bD,sps,rds,aG,aK,aX,bQ,wkL,wk,wkR]) rfl trivial ?_
  have hz2:nA1 ps ps.length=nA2 ps ((ofN ps 1 ps.length).take 0):=by simp [nA2]
  rw [hz2]
  have hq:=fF (ps:=ps) (kind:=1) (n:=ps.length)
  have hm1:=fun i (h:i<(ofN ps 1 ps.length).length)=>oY (yat h)
  generalize hL:ofN ps 1 ps.length=L at *
  unfold Og
  simp -implicitDefEqProofs only [rX,↓rY,aA,↓reduceIte]
  intro _
  refine aV (fun k:Nat=>⟨[(44,.i k),(43,.i L.length),(42,.ro 1 (L.map nE)),(3,.ptr 2 0 0),(2,.ptr 1 0 0),(1,.ptr 0 0 0)],hN ps rs (nA2 ps (L.take k)),0⟩) (fun k=>k≤L.length) (fun k=>L.length-k) 0 (by omega) ?_ ?_
  ·simp -implicitDefEqProofs only [rX,↓reduceIte,Nat.reduceEqDiff,leE,leH,leB,leV,bA,aD,aB,wfE,wfB,wfV,wfL,yaj,hN]
  rintro k hk
  unfold c51l1 hN
  simp -implicitDefEqProofs only [rX,↓rY,rdK,aA,cells?,splice,↓reduceIte,Nat.reduceEqDiff,Nat.reduceAdd,reduceCtorEq,aC,bU,cG,leE,leH,leB,leV,bA,aD,aB,wfE,wfB,wfV,wfL,bN,bE,kill,bO,St.kill,isD,isC,Nat.reduceLT,Nat.reduceLeDiff,yac,xQ,yaa,aaU]
  simp only [br,yaa,decide_eq_true_eq,decide_eq_false_iff_not]
  refine ⟨fun h=>?_,fun h=>?_⟩
  ·have hkl:k<L.length:=by omega
   have hi:=hm1 k hkl
   have hlen:=w5 (ps:=ps) (l:=L.take k)
   rw [yas] at hlen
   refine ⟨⟨by omega,h⟩,hkl,?_⟩
   simp only [lo,Fx.hi,maxLen] at *
   refine ⟨by omega,by omega,⟨by omega,by omega⟩,hi,by omega,by omega,k+1,⟨by omega,by omega⟩,by omega,?_⟩
   exact lA _ _ _ (afD hkl hi)
  have hk:k=L.length:=by omega
  subst hk
  refine aE (aaK ps rs 3 hl) (by simp [bD,sps,rds,aG,aK,aX,bQ,wkL,wk,wkR]) rfl trivial ?_
  subst hL
  have hz3:nA2 ps ((ofN ps 1 ps.length).take (ofN ps 1 ps.length).length)=nA3 ps ((ofN ps 3 ps.length).take 0):=by simp [nA3]
  rw [hz3]
  have hq:=fF (ps:=ps) (kind:=3) (n:=ps.length)
  have hm1:=fun i (h:i<(ofN ps 3 ps.length).length)=>oY (yat h)
  generalize hL:ofN ps 3 ps.length=L at *
  unfold Og
  simp -implicitDefEqProofs only [rX,↓rY,aA,↓reduceIte]
  intro _
  refine aV (fun k:Nat=>⟨[(67,.i k),(66,.i L.length),(65,.ro 1 (L.map nE)),(3,.ptr 2 0 0),(2,.ptr 1 0 0),(1,.ptr 0 0 0)],hN ps rs (nA3 ps (L.take k)),0⟩) (fun k=>k≤L.length) (fun k=>L.length-k) 0 (by omega) ?_ ?_
  ·simp -implicitDefEqProofs only [rX,↓reduceIte,Nat.reduceEqDiff,leE,leH,leB,leV,bA,aD,aB,wfE,wfB,wfV,wfL,yaj,hN]
  rintro k hk
  unfold c51l2 hN
  simp -implicitDefEqProofs only [rX,↓rY,rdK,aA,cells?,splice,↓reduceIte,Nat.reduceEqDiff,Nat.reduceAdd,reduceCtorEq,aC,bU,cG,leE,leH,leB,leV,bA,aD,aB,wfE,wfB,wfV,wfL,bN,bE,kill,bO,St.kill,isD,isC,Nat.reduceLT,Nat.reduceLeDiff,yac,xQ,yaa,aaU]
  simp only [br,yaa,decide_eq_true_eq,decide_eq_false_iff_not]
  refine ⟨fun h=>?_,fun h=>?_⟩
  ·have hkl:k<L.length:=by omega
   have hi:=hm1 k hkl
   have hlen:=Ej (ps:=ps) (l:=L.take k)
   rw [yas] at hlen
   refine ⟨⟨by omega,h⟩,hkl,?_⟩
   simp only [lo,Fx.hi,maxLen] at *
   refine ⟨by omega,by omega,⟨by omega,by omega⟩,hi,by omega,by omega,k+1,⟨by omega,by omega⟩,by omega,?_⟩
   exact lA _ _ _ (afB hkl hi)
  have hk:k=L.length:=by omega
  subst hk
  subst hL
  have hz4:nA3 ps ((ofN ps 3 ps.length).take (ofN ps 3 ps.length).length)=nA4 ps (rs.take 0):=by simp [nA4]
  rw [hz4]
  intro _
  refine aV (fun k:Nat=>⟨[(90,.i k),(89,.i rs.length),(88,.ro 4 (rs.map Road.enc)),(3,.ptr 2 0 0),(2,.ptr 1 0 0),(1,.ptr 0 0 0)],hN ps rs (nA4 ps (rs.take k)),0⟩) (fun k=>k≤rs.length) (fun k=>rs.length-k) 0 (by omega) ?_ ?_
  ·simp -implicitDefEqProofs only [rX,↓reduceIte,Nat.reduceEqDiff,leE,leH,leB,leV,bA,aD,aB,wfE,wfB,wfV,wfL,yaj,hN]
  rintro k hk
  unfold c51l3 hN
  simp -implicitDefEqProofs only [rX,↓rY,aA,cells?,splice,↓reduceIte,Nat.reduceEqDiff,Nat.reduceAdd,reduceCtorEq,aC,bU,cG,leE,leH,leB,leV,bA,aD,aB,wfE,wfB,wfV,wfL,bN,bE,kill,bO,St.kill,isD,isC,Nat.reduceLT,Nat.reduceLeDiff,yac,pW,mU,Ny,Nx,Nw,Nv,tS,yaa]
  simp only [br,yaa,decide_eq_true_eq,decide_eq_false_iff_not]
  refine ⟨fun h=>?_,fun h=>?_⟩
  ·have hkl:k<rs.length:=by omega
   obtain ⟨hs1,hs2,_⟩:=hv.h k hkl hkl
   have hlen:=w4 (ps:=ps) (l:=rs.take k)
   rw [yas] at hlen
   refine ⟨⟨by omega,h⟩,hkl,?_⟩
   simp only [lo,Fx.hi,maxLen] at *
   refine ⟨by omega,by omega,by omega,by omega,by omega,by omega,k+1,⟨by omega,by omega⟩,by omega,?_⟩
   exact lA _ _ _ (Ym hkl)
  have hk:k=rs.length:=by omega
  subst hk
  simp [qa,qb,qc,qd,qe,qf,qg,qh,qi,qj,qk,ql,qm,qn,qo,qp,qq,qr,qs,qt,qu,qv,qw,qx,qy,qz,qA,qB,qC,qD,qE,qF,qG,qH,qI,qJ,qK,qL,qM,qN,qO,qP,rdK,qQ,qR,qS,qT,qU,qV,qW,qX,qY,qZ,zb,zc,zd,ze,zf,zg,zh,zi,zj,zk,zm,zn,zo,zp,zq,zr,zt,zu,zv,zw,zx,zy,zA,zB,zC,zD,zE,zF,zG,zH,zI,zJ,zK,zL,zM,zN,zO,zP,zQ,zR,zS,zT,zU,zV,zW,zX,zY,zZ,ka,kb,kc,kg,kh,ki,kj,kk,kn,ko,kq,kr,kw,kx,ky,kz,kB,kC,kD,kF,kG,kH,kI,kJ,kK,kL,kM,kN,kO,kP,kQ,kR,kS,kT,kU,kV,kX,aA,cells?,yaB,yav,yaA,splice,kY,yag,yau,↓reduceIte,Nat.reduceEqDiff,yaw,kZ,wa,cU,wb,ybS,ybT,↓wc,↓wd,we,wg,ybe,yaL,yao,yay,Nat.reduceAdd,ybf,reduceCtorEq,aC,ybu,ybU,dU,ybV,bU,cG,wh,aQ,aU,ybv,ybw,wj,leE,leH,leB,leV,bA,aD,aB,wfE,wfB,wfV,wfL,bN,bE,kill,bO,St.kill,yaC,yaQ,yaS,yaV,ybx,ybg,yaG,yaY,isD,isC,yaR,yaK,true_and,and_true,and_self,V.v.injEq,Value.int.injEq,Value.bool.injEq,yaW,yaI,or_false,false_or,yah,yam,yaX,not_false_eq_true,yaM,Nat.reduceLT,Nat.reduceLeDiff,yab,lg0,wl,wm,wo,wq,lg1,wr,wt,wu,wv,lg2,ww,wx,wy,wz,lg3,wC,wD,wE,wF,lg4,wG,wI,wJ,wK,lg5,wL,wM,wN,wO,lg6,wP,wQ,wR,wS,lg7,wT,wU,wV,wW,lg8,wX,wY,wZ,ja,lg9,jb,jc,jd,je,jf,jg,jh,ji,jj,jk,jl,jm,jn,jo,jp,jq,jr,jt,ju,jv,jx,jy,jz,jA,jB,jC,jD,jE,jF,jG,jH,jI,jJ,jK,jL,jM,jN,jO,jP,jQ,jR,jS,jT,jU,jV,jW,jX,jY,jZ,qaa,qab,qac,qad,qae,qaf,qag,qah,qai,qaj,qak,qal,qam,qan,qao,qap,qaq,qar,↓qas,↓qat,↓qau,↓qav,↓qaw,↓qax,↓qay,↓qaz,↓qaA,↓qaB,↓qaC,↓qaD,↓qaE,↓qaF,↓qaG,↓qaH,↓qaI,↓qaJ,↓qaK,↓qaL,↓qaM,↓qaN,↓qaO,↓qaP,↓qaQ,↓qaR,↓qaS,↓qaT,↓qaU,↓qaV,↓qaW,↓qaX,↓qaY,↓qaZ,↓qba,↓qbb,↓qbc,↓qbd,↓qbe,↓qbf,↓qbg,↓qbh,↓qbi,↓qbj,↓qbk,↓qbl,↓qbm,↓qbn,↓qbo,↓qbp,↓qbq,↓qbr,↓qbs,↓qbt,↓qbu,↓qbv,↓qbw,↓qbx,↓qby,↓qbz,↓qbA,↓qbB,↓qbC,↓qbD,↓qbE,↓qbF,↓qbG,↓qbH,↓qbI,↓qbJ,↓qbK,↓qbL,↓qbM,↓qbN,↓qbO,↓qbP,↓qbQ,↓qbR,↓qbS,↓qbT,↓qbU,↓qbV,↓qbW,↓qbX,↓qbY,↓qbZ,↓qca,↓qcb,↓qcc,↓qcd,↓qce,↓qcf,↓qcg,↓qch,↓qci,↓qcj,↓qck,↓qcl,↓qcm,↓qcn,↓qco,↓qcp,↓qcq,↓qcr,↓qcs,↓qct,↓qcu,↓qcv,↓qcw,↓qcx,↓qcy,↓qcz,↓qcA,↓qcB,yam,yac,Km,Fk,acH,acG,acF,Ko,Kn,mQ,iQ,vL,Vf,xQ,nX,Iw,pW,mU,Ny,Nx,Nw,Nv,tS,Jm,enc_len,fB,oP,oO,sR,u9,fO,Fc,Aq,cR,Ar,uF,yaa,fG,iY,cxN,fN]
  exact ⟨_,⟨El _,by simp,by simp [wfB,wfL,wfV,aB]⟩,by simp [gvV,gvL,wk,wkR,wkL,blk,net,bJ];exact yae (by simp)⟩
end Go.Fx.P
namespace Go.Fx.P
open Go Go.Fx Go.Fx.E Go.Proofs
set_option maxRecDepth 20000
theorem afE {ps:List aF} {l:List Nat} {k:Nat} (hk:k<ps.length):nA2 ps (l++[k])=nA2 ps l++[⟨0,2+2*(k:Nat),ps[k].cap,0⟩]:=by
 rw [nA2,yap];simp [nA2,aS,dL hk]
theorem afC {ps:List aF} {l:List Nat} {k:Nat} (hk:k<ps.length):nA3 ps (l++[k])=nA3 ps l++[⟨3+2*(k:Nat),1,ps[k].cap,0⟩]:=by
 rw [nA3,yap];simp [nA3,aO,dL hk]
theorem akB (ps:List aF) (rs:List Road) (hl:ps.length≤100) (hr:rs.length≤1500) (hv:RInv ps rs rs.length):Ok 25 [bD ps rs] (Is (net (lZ ps) (bJ ps rs))):=by
 refine yT (R:=fun r hs=>wk (net (lZ ps) (bJ ps rs)) (gvV (fun _=>true) hs r)) ?_ fun _ _ h=>h
 refine ok_of lw25 (by simp) ?_
 unfold c25 bD sps rds
 simp -implicitDefEqProofs only [rX,↓rY,aA,cells?,splice,↓reduceIte,Nat.reduceEqDiff,Nat.reduceAdd,aC,bU,isC,Nat.reduceLeDiff,cxN,aL]
 intro hm
 refine ⟨by simp only [lo,hi,maxLen] at *;omega,by simp only [lo,hi,maxLen] at *;omega,?_⟩
 refine fU (.virt 1 4 (by decide) (.nilB 2 [.i (lZ ps),.nil] [.i (lZ ps),.sl 3 0 0] rfl ⟨rfl,fun i a b h1 h2=>?_⟩ (.refl _))) (fun k:Nat=>⟨[(4,.i k),(3,.ptr 2 0 0),(2,.ptr 1 0 0),(1,.ptr 0 0 0)],hN ps rs (nA1 ps k),0⟩) (fun k=>k≤ps.length) (fun k=>ps.length-k) 0 (by omega) ?_ ?_
 ·match i,h1,h2 with
  | 0,h1,h2=>cases h1;cases h2;exact .inl rfl
  | 1,h1,h2=>cases h1;cases h2;exact .inr ⟨rfl,3,rfl⟩
  | n+2,h1,h2=>cases h1
 ·simp -implicitDefEqProofs only [rX,↓reduceIte,Nat.reduceEqDiff,leE,leH,leB,leV,bA,aD,aB,wfE,wfB,wfV,wfL,yaj,nA1,ybC,hN,lZ]
 rintro k hk
 unfold c25l0 hN
 simp -implicitDefEqProofs only [rX,↓rY,rdK,aA,cells?,splice,↓reduceIte,Nat.reduceEqDiff,Nat.reduceAdd,reduceCtorEq,aC,bU,cG,leE,leH,leB,leV,bA,aD,aB,wfE,wfB,wfV,wfL,bN,bE,kill,bO,St.kill,isD,isC,Nat.reduceLT,Nat.reduceLeDiff,yac,xQ,yaa]
 simp only [br,yaa,decide_eq_true_eq,decide_eq_false_iff_not]
 refine fun _=>⟨fun h=>?_,fun h=>?_⟩
 ·have hk:k<ps.length:=by omega
  have:=o3 (ps:=ps) (n:=k)
  simp only [lo,hi,maxLen] at *
  refine ⟨by omega,by omega,by omega,by omega,⟨by omega,by omega⟩,hk,by omega,by omega,k+1,⟨by omega,by omega⟩,by omega,?_⟩
  exact lA _ _ _ (Yn hk)
 have hk:k=ps.length:=by omega
 subst hk
 have hz2:nA1 ps ps.length=nA2 ps (ofN ps 1 0):=by simp [nA2,ofN]
 rw [hz2]
 refine aV (fun k:Nat=>⟨[(5,.i k),(3,.ptr 2 0 0),(2,.ptr 1 0 0),(1,.ptr 0 0 0)],hN ps rs (nA2 ps (ofN ps 1 k)),0⟩) (fun k=>k≤ps.length) (fun k=>ps.length-k) 0 (by omega) ?_ ?_
 ·simp -implicitDefEqProofs only [rX,↓reduceIte,Nat.reduceEqDiff,leE,leH,leB,leV,bA,aD,aB,wfE,wfB,wfV,wfL,yaj,hN]
 rintro k hk
 unfold c25l1 hN
 simp -implicitDefEqProofs only [rX,↓rY,rdK,aA,cells?,splice,↓reduceIte,Nat.reduceEqDiff,Nat.reduceAdd,reduceCtorEq,aC,bU,cG,leE,leH,leB,leV,bA,aD,aB,wfE,wfB,wfV,wfL,bN,bE,kill,bO,St.kill,isD,isC,Nat.reduceLT,Nat.reduceLeDiff,yac,vL,xQ,yaa]
 simp only [br,yaa,decide_eq_true_eq,decide_eq_false_iff_not]
 refine fun _=>⟨fun h=>?_,fun h=>?_⟩
 ·have hk:k<ps.length:=by omega
  have hs:=j3 (ps:=ps) (kind:=1) (n:=k)
  rw [p6 hk] at hs
  have hl2:=fF (ps:=ps) (kind:=1) (n:=k)
  have hlen:=w5 (ps:=ps) (l:=ofN ps 1 k)
  simp only [lo,hi,maxLen] at *
  refine ⟨⟨by omega,h⟩,hk,fun h3=>?_,fun h3=>?_⟩
  ·rw [h3,if_pos rfl] at hs
   refine ⟨by omega,by omega,⟨by omega,by omega⟩,hk,by omega,by omega,k+1,⟨by omega,by omega⟩,by omega,?_⟩
   rw [hs]
   exact lA _ _ _ (afE hk)
  ·rw [h3,if_neg (by simp),yao] at hs
   refine ⟨by omega,k+1,⟨by omega,by omega⟩,by omega,?_⟩
   rw [hs];exact ⟨rfl,rfl⟩
 have hk:k=ps.length:=by omega
 subst hk
 have hz3:nA2 ps (ofN ps 1 ps.length)=nA3 ps (ofN ps 3 0):=by simp [nA3,ofN]
 rw [hz3]
 refine aV (fun k:Nat=>⟨[(6,.i k),(3,.ptr 2 0 0),(2,.ptr 1 0 0),(1,.ptr 0 0 0)],hN ps rs (nA3 ps (ofN ps 3 k)),0⟩) (fun k=>k≤ps.length) (fun k=>ps.length-k) 0 (by omega) ?_ ?_
 ·simp -implicitDefEqProofs only [rX,↓reduceIte,Nat.reduceEqDiff,leE,leH,leB,leV,bA,aD,aB,wfE,wfB,wfV,wfL,yaj,hN]
 rintro k hk
 unfold c25l2 hN
 simp -implicitDefEqProofs only [rX,↓rY,rdK,aA,cells?,splice,↓reduceIte,Nat.reduceEqDiff,Nat.reduceAdd,reduceCtorEq,aC,bU,cG,leE,leH,leB,leV,bA,aD,aB,wfE,wfB,wfV,wfL,bN,bE,kill,bO,St.kill,isD,isC,Nat.reduceLT,Nat.reduceLeDiff,yac,vL,xQ,yaa]
 simp only [br,yaa,decide_eq_true_eq,decide_eq_false_iff_not]
 refine fun _=>⟨fun h=>?_,fun h=>?_⟩
 ·have hk:k<ps.length:=by omega
  have hs:=j3 (ps:=ps) (kind:=3) (n:=k)
  rw [p6 hk] at hs
  have hl2:=fF (ps:=ps) (kind:=3) (n:=k)
  have hlen:=Ej (ps:=ps) (l:=ofN ps 3 k)
  simp only [lo,hi,maxLen] at *
  refine ⟨⟨by omega,h⟩,hk,fun h3=>?_,fun h3=>?_⟩
  ·rw [h3,if_pos rfl] at hs
   refine ⟨by omega,by omega,⟨by omega,by omega⟩,hk,by omega,by omega,k+1,⟨by omega,by omega⟩,by omega,?_⟩
   rw [hs]
   exact lA _ _ _ (afC hk)
  ·rw [h3,if_neg (by simp),yao] at hs
   refine ⟨by omega,k+1,⟨by omega,by omega⟩,by omega,?_⟩
   rw [hs];exact ⟨rfl,rfl⟩
 have hk:k=ps.length:=by omega
 subst hk
 have hz4:nA3 ps (ofN ps 3 ps.length)=nA4 ps (rs.take 0):=by simp [nA4]
 rw [hz4]
 refine aV (fun k:Nat=>⟨[(7,.i k),(3,.ptr 2 0 0),(2,.ptr 1 0 0),(1,.ptr 0 0 0)],hN ps rs (nA4 ps (rs.take k)),0⟩) (fun k=>k≤rs.length) (fun k=>rs.length-k) 0 (by omega) ?_ ?_
 ·simp -implicitDefEqProofs only [rX,↓reduceIte,Nat.reduceEqDiff,leE,leH,leB,leV,bA,aD,aB,wfE,wfB,wfV,wfL,yaj,hN]
 rintro k hk
 unfold c25l3 hN
 simp -implicitDefEqProofs only [rX,↓rY,aA,cells?,splice,↓reduceIte,Nat.reduceEqDiff,Nat.reduceAdd,reduceCtorEq,aC,bU,cG,leE,leH,leB,leV,bA,aD,aB,wfE,wfB,wfV,wfL,bN,bE,kill,bO,St.kill,isD,isC,Nat.reduceLT,Nat.reduceLeDiff,yac,pW,mU,Ny,Nx,Nw,Nv,tS,yaa]
 simp only [br,yaa,decide_eq_true_eq,decide_eq_false_iff_not]
 refine fun _=>⟨fun h=>?_,fun h=>?_⟩
 ·have hkl:k<rs.length:=by omega
  obtain ⟨hs1,hs2,_⟩:=hv.h k hkl hkl
  have hlen:=w4 (ps:=ps) (l:=rs.take k)
  rw [yas] at hlen
  refine ⟨⟨by omega,h⟩,hkl,?_⟩
  simp only [lo,Fx.hi,maxLen] at *
  refine ⟨by omega,by omega,by omega,by omega,by omega,by omega,k+1,⟨by omega,by omega⟩,by omega,?_⟩
  exact lA _ _ _ (Ym hkl)
 have hk:k=rs.length:=by omega
 subst hk
 simp [qa,qb,qc,qd,qe,qf,qg,qh,qi,qj,qk,ql,qm,qn,qo,qp,qq,qr,qs,qt,qu,qv,qw,qx,qy,qz,qA,qB,qC,qD,qE,qF,qG,qH,qI,qJ,qK,qL,qM,qN,qO,qP,rdK,qQ,qR,qS,qT,qU,qV,qW,qX,qY,qZ,zb,zc,zd,ze,zf,zg,zh,zi,zj,zk,zm,zn,zo,zp,zq,zr,zt,zu,zv,zw,zx,zy,zA,zB,zC,zD,zE,zF,zG,zH,zI,zJ,zK,zL,zM,zN,zO,zP,zQ,zR,zS,zT,zU,zV,zW,zX,zY,zZ,ka,kb,kc,kg,kh,ki,kj,kk,kn,ko,kq,kr,kw,kx,ky,kz,kB,kC,kD,kF,kG,kH,kI,kJ,kK,kL,kM,kN,kO,kP,kQ,kR,kS,kT,kU,kV,kX,aA,cells?,yaB,yav,yaA,splice,kY,yag,yau,↓reduceIte,Nat.reduceEqDiff,yaw,kZ,wa,cU,wb,ybS,ybT,↓wc,↓wd,we,wg,ybe,yaL,yao,yay,Nat.reduceAdd,ybf,reduceCtorEq,aC,ybu,ybU,dU,ybV,bU,cG,wh,aQ,aU,ybv,ybw,wj,leE,leH,leB,leV,bA,aD,aB,wfE,wfB,wfV,wfL,bN,bE,kill,bO,St.kill,yaC,yaQ,yaS,yaV,ybx,ybg,yaG,yaY,isD,isC,yaR,yaK,true_and,and_true,and_self,V.v.injEq,Value.int.injEq,Value.bool.injEq,yaW,yaI,or_false,false_or,yah,yam,yaX,not_false_eq_true,yaM,Nat.reduceLT,Nat.reduceLeDiff,yab,lg0,wl,wm,wo,wq,lg1,wr,wt,wu,wv,lg2,ww,wx,wy,wz,lg3,wC,wD,wE,wF,lg4,wG,wI,wJ,wK,lg5,wL,wM,wN,wO,lg6,wP,wQ,wR,wS,lg7,wT,wU,wV,wW,lg8,wX,wY,wZ,ja,lg9,jb,jc,jd,je,jf,jg,jh,ji,jj,jk,jl,jm,jn,jo,jp,jq,jr,jt,ju,jv,jx,jy,jz,jA,jB,jC,jD,jE,jF,jG,jH,jI,jJ,jK,jL,jM,jN,jO,jP,jQ,jR,jS,jT,jU,jV,jW,jX,jY,jZ,qaa,qab,qac,qad,qae,qaf,qag,qah,qai,qaj,qak,qal,qam,qan,qao,qap,qaq,qar,↓qas,↓qat,↓qau,↓qav,↓qaw,↓qax,↓qay,↓qaz,↓qaA,↓qaB,↓qaC,↓qaD,↓qaE,↓qaF,↓qaG,↓qaH,↓qaI,↓qaJ,↓qaK,↓qaL,↓qaM,↓qaN,↓qaO,↓qaP,↓qaQ,↓qaR,↓qaS,↓qaT,↓qaU,↓qaV,↓qaW,↓qaX,↓qaY,↓qaZ,↓qba,↓qbb,↓qbc,↓qbd,↓qbe,↓qbf,↓qbg,↓qbh,↓qbi,↓qbj,↓qbk,↓qbl,↓qbm,↓qbn,↓qbo,↓qbp,↓qbq,↓qbr,↓qbs,↓qbt,↓qbu,↓qbv,↓qbw,↓qbx,↓qby,↓qbz,↓qbA,↓qbB,↓qbC,↓qbD,↓qbE,↓qbF,↓qbG,↓qbH,↓qbI,↓qbJ,↓qbK,↓qbL,↓qbM,↓qbN,↓qbO,↓qbP,↓qbQ,↓qbR,↓qbS,↓qbT,↓qbU,↓qbV,↓qbW,↓qbX,↓qbY,↓qbZ,↓qca,↓qcb,↓qcc,↓qcd,↓qce,↓qcf,↓qcg,↓qch,↓qci,↓qcj,↓qck,↓qcl,↓qcm,↓qcn,↓qco,↓qcp,↓qcq,↓qcr,↓qcs,↓qct,↓qcu,↓qcv,↓qcw,↓qcx,↓qcy,↓qcz,↓qcA,↓qcB,yam,yac,Km,Fk,acH,acG,acF,Ko,Kn,mQ,iQ,vL,Vf,xQ,nX,Iw,pW,mU,Ny,Nx,Nw,Nv,tS,Jm,enc_len,fB,oP,oO,sR,u9,fO,Fc,Aq,cR,Ar,uF,yaa,fG,iY,cxN,fN]
 exact ⟨_,⟨El _,by simp,by simp [wfB,wfL,wfV,aB]⟩,by simp [gvV,gvL,wk,wkR,wkL,blk,net,bJ];exact yae (by simp)⟩
end Go.Fx.P
namespace Go.Fx.P
open Go Go.Fx Go.Fx.E Go.Proofs
set_option maxRecDepth 20000
theorem eG {ps:List aF} {rs:List Road} (h:fQ ps rs=0):(ps.length≤100∧rs.length≤1500)∧Bh ps∧RInv ps rs rs.length:=by
 unfold fQ at h
 by_cases h1:100<ps.length∨1500<rs.length
 ·rw [if_pos h1] at h;cases h
 rw [if_neg h1] at h
 by_cases h2:iK (eAt ps) ps.length 0≠0
 ·rw [if_pos h2] at h;exact absurd h h2
 rw [if_neg h2] at h
 by_cases h3:∀ r∈rs,gQ ps r
 ·refine ⟨by omega,?_,⟨fun j hj _=>h3 _ (yat hj)⟩⟩
  have key:∀ n i,i≤n→i<ps.length→eAt ps i=0:=by
   intro n
   induction n with
   | zero =>
    intro i hi hil
    by_cases h4:eAt ps i=0
    ·exact h4
    ·exact absurd (iX (n:=ps.length) (k:=0) (by omega) (by omega) (fun j _ hj=>by omega) h4) (by simp only [ne_eq,Classical.not_not] at h2;rw [h2];exact fun h5=>h4 h5.symm)
   | succ n ih =>
    intro i hi hil
    by_cases h4:eAt ps i=0
    ·exact h4
    ·exact absurd (iX (n:=ps.length) (k:=0) (by omega) (by omega) (fun j _ hj=>ih j (by omega) (by omega)) h4) (by simp only [ne_eq,Classical.not_not] at h2;rw [h2];exact fun h5=>h4 h5.symm)
  intro i hi
  have:=key i i (by omega) hi
  rw [Fd hi] at this
  by_cases h4:f7 ps[i]=false
  ·rw [if_pos h4] at this;cases this
  ·have h5:j7 ps[i]:=by simpa [f7] using h4
   exact h5.1
 ·rw [if_neg h3] at h;cases h
abbrev tPl:Fx.T:=.st [.sl 3 (.st [.int .i64,.int .i64,.int .i64]),.sl 4 (.st [.int .i64,.int .i64,.int .i64,.int .i64])]
theorem exM {α β:Type} {g:α→β}:∀ {els:List β},(∀ x∈els,∃ a,x=g a)→∃ l:List α,els=l.map g
 | [],_=>⟨[],rfl⟩
 | x::r,h=>by
  obtain ⟨a,rfl⟩:=h x yaO
  obtain ⟨l,rfl⟩:=exM (els:=r) fun y hy=>h y (yaP _ hy)
  exact ⟨a::l,rfl⟩
theorem wf_sp {x:List V} (h:WfT (.st [.int .i64,.int .i64,.int .i64]) x):∃ a:aF,x=a.enc:=by
 simp only [WfT,pF] at h
 obtain ⟨_,_,rfl,⟨a,rfl,_⟩,_,_,rfl,⟨b,rfl,_⟩,_,_,rfl,⟨c,rfl,_⟩,rfl⟩:=h
 exact ⟨⟨a,b,c⟩,rfl⟩
theorem wf_rd {x:List V} (h:WfT (.st [.int .i64,.int .i64,.int .i64,.int .i64]) x):∃ a:Road,x=a.enc:=by
 simp only [WfT,pF] at h
 obtain ⟨_,_,rfl,⟨a,rfl,_⟩,_,_,rfl,⟨b,rfl,_⟩,_,_,rfl,⟨c,rfl,_⟩,_,_,rfl,⟨d,rfl,_⟩,rfl⟩:=h
 exact ⟨⟨a,b,c,d⟩,rfl⟩
theorem wf_plant {x:V} (h:WfV tPl x):∃ ps rs,x=bD ps rs:=by
 simp only [WfV] at h
 obtain ⟨cs,h,rfl⟩:=h
 rw [pF.eq_2] at h
 obtain ⟨a,b,rfl,h1,h2⟩:=h
 rw [pF.eq_2] at h2
 obtain ⟨c,d,rfl,h3,h4⟩:=h2
 rw [pF.eq_1] at h4
 subst h4
 rw [WfT] at h1
 obtain ⟨els,rfl,_,he⟩:=h1
 obtain ⟨ps,rfl⟩:=exM (fun x hx=>wf_sp (he x hx))
 rw [WfT] at h3
 obtain ⟨els,rfl,_,he⟩:=h3
 obtain ⟨rs,rfl⟩:=exM (fun x hx=>wf_rd (he x hx))
 exact ⟨ps,rs,rfl⟩
end Go.Fx.P
namespace Go.Fx.P.K
open Go Go.Fx Go.Fx.E Go.Proofs
set_option maxRecDepth 20000
def nP (n k:Int):Bool:=decide (0≤k∧k<n)
def nb (n:Int) (arcs:List Arc):Blk:=.var [.i n,.ro 4 (arcs.map Arc.enc)]
theorem Yi (n:Int) (arcs:List Arc) (k:Int):OkN Tryz.prog 121 [.i k,.ptr 0 0 0] [nb n arcs] [] (IsA (.b (nP n k)) [nb n arcs]):=by
 refine eS pol [0] lw121 (by simp) ⟨trivial,trivial⟩ (by simp) ?_
 unfold c121 nb
 simp -implicitDefEqProofs only [rX,↓rY,aA,↓reduceIte,Nat.reduceEqDiff,reduceCtorEq,aQ,aU,leH,leB,leV,bA,aD,aB,wfB,wfV,wfL,cxN,aL,cQ]
 simp only [br,decide_eq_true_eq,decide_eq_false_iff_not,nP]
 grind
def Fw (n f t am:Int):Bool:=decide ((0≤f∧f<n)∧(0≤t∧t<n)∧f≠t∧0≤am∧am≤2199023255552)
theorem ajD (n:Int) (arcs:List Arc) (f t am:Int):Ok 88 [net n arcs,.i f,.i t,.i am] (Is (.b (Fw n f t am))):=by
 refine ok_of lw88 (by simp) ?_
 unfold c88 net
 simp -implicitDefEqProofs only [rX,↓rY,aA,cells?,↓reduceIte,Nat.reduceEqDiff,Nat.reduceAdd,reduceCtorEq,aC,aQ,aU,wfV,cxN,aL]
 simp only [br,decide_eq_true_eq,decide_eq_false_iff_not,Fw]
 grind
end Go.Fx.P.K
namespace Go.Fx.P.K
open Go Go.Fx Go.Fx.E Go.Proofs
set_option maxRecDepth 20000
def fZ (n:Int) (a:Arc):Bool:=nP n a.from_&&(nP n a.to&&decide (a.from_≠a.to∧0≤a.cap∧a.cap≤1073741824∧0≤a.cost∧a.cost≤1048576))
def iL (n:Int) (arcs:List Arc):Int:=if 256<n∨2048<arcs.length then 2 else if n<1 then 1 else if arcs.all (fZ n) then 0 else 1
theorem Hx {n:Int} {arcs:List Arc} (h:256<n∨2048<arcs.length):iL n arcs=2:=by simp only [iL,if_pos h]
theorem Tt {n:Int} {arcs:List Arc} (h:¬(256<n∨2048<arcs.length)) (h1:n<1):iL n arcs=1:=by simp only [iL,if_neg h,if_pos h1]
theorem Hy {n:Int} {arcs:List Arc} (h:¬(256<n∨2048<arcs.length)) (h1:¬n<1) (h2:∀ k (h:k<arcs.length),fZ n arcs[k]=true):iL n arcs=0:=by
 have:arcs.all (fZ n)=true:=by
  rw [List.all_eq_true]
  intro a ha
  obtain ⟨j,hj,rfl⟩:=ybi ha
  exact h2 j hj
 simp only [iL,if_neg h,if_neg h1,this,if_true]
theorem Ts {n:Int} {arcs:List Arc} (h:¬(256<n∨2048<arcs.length)) (h1:¬n<1) {k:Nat} (hk:k<arcs.length) (h2:fZ n arcs[k]=false):iL n arcs=1:=by
 have:arcs.all (fZ n)=false:=by
  rw [List.all_eq_false]
  exact ⟨_,yat hk,by simp [h2]⟩
 simp only [iL,if_neg h,if_neg h1,this]
 rfl
structure Xk (n:Int) (arcs:List Arc) (k:Nat):Prop where
 h:∀ j (h:j<arcs.length),j<k→fZ n arcs[j]=true
theorem Xk.next {n:Int} {arcs:List Arc} {k:Nat} (h:Xk n arcs k) (hk:k<arcs.length) (hv:fZ n arcs[k]=true):Xk n arcs (k+1):=by
 refine ⟨fun j hj h2=>?_⟩
 by_cases h3:j=k
 ·subst h3;exact hv
 ·exact h.h j hj (by omega)
theorem ajE (n:Int) (arcs:List Arc):Ok 87 [net n arcs] (Is (.i (iL n arcs))):=by
 refine ok_of lw87 (by simp) ?_
 unfold c87 net
 simp -implicitDefEqProofs only [rX,↓rY,aA,cells?,↓reduceIte,Nat.reduceEqDiff,aC,aQ,aU,wfV,cxN,aL]
 simp only [br,decide_eq_true_eq,decide_eq_false_iff_not]
 refine ⟨fun h=>?_,fun h1 hm=>⟨fun h=>?_,fun h2=>⟨fun h=>?_,fun h3=>?_⟩⟩⟩
 ·exact (Hx (.inl h)).symm
 ·exact (Hx (.inr (by omega))).symm
 ·exact (Tt (by omega) h).symm
 intro _
 refine aV (fun k:Nat=>⟨[(22,.i k),(21,.i arcs.length),(20,.ro 4 (arcs.map Arc.enc)),(3,.clo 121 [.ptr 0 0 0]),(1,.ptr 0 0 0)],[.var [.i n,.ro 4 (arcs.map Arc.enc)]],0⟩) (fun k=>k≤arcs.length∧Xk n arcs k) (fun k=>arcs.length-k) 0 ⟨by omega,⟨by simp⟩⟩ ?_ ?_
 ·simp -implicitDefEqProofs only [rX,↓reduceIte,Nat.reduceEqDiff,leE,leH,leB,leV,bA,aD,aB,wfE,wfB,wfV,wfL,bA,leV,yaj]
 rintro k ⟨hk,hv⟩
 simp -implicitDefEqProofs only [rX,↓rY,aA,cells?,splice,↓reduceIte,Nat.reduceEqDiff,Nat.reduceAdd,aC,aQ,aU,wfV,yac,enc_len,fB,oP,fO,yaa]
 simp only [br,decide_eq_true_eq,decide_eq_false_iff_not]
 refine ⟨fun h=>⟨⟨by omega,h⟩,⟨by omega,?_⟩⟩,fun h=>(Hy (by omega) h3 fun j hj=>hv.h j hj (by omega)).symm⟩
 have hk:k<arcs.length:=by omega
 have bad:=fun (h:fZ n arcs[k]=false)=>(Ts (n:=n) (arcs:=arcs) (by omega) h3 hk h).symm
 have good:=fun (h:fZ n arcs[k]=true)=>hv.next hk h
 refine dC [0] [.i arcs[k].from_,.ptr 0 0 0] (.b (nP n arcs[k].from_)) (.b (nP n arcs[k].from_)) [nb n arcs] [nb n arcs] _ (Yi n arcs arcs[k].from_) ⟨by simp,by simp⟩ rfl ?_ (by simp) rfl rfl trivial ?_
 ·simp [aG,aK,aX,bQ,wkL,wk,pos]
 cases hf:nP n arcs[k].from_ with
 | false =>
  simp -implicitDefEqProofs only [rX,↓rY,aA,↓reduceIte,Nat.reduceEqDiff,Nat.reduceAdd,aQ,aU,wfV]
  exact bad (by simp [fZ,hf])
 | true =>
  simp -implicitDefEqProofs only [rX,↓rY,↓reduceIte,Nat.reduceEqDiff,Nat.reduceAdd,oO,bH,cB,cK,ren,nb]
  refine dC [0] [.i arcs[k].to,.ptr 0 0 0] (.b (nP n arcs[k].to)) (.b (nP n arcs[k].to)) [nb n arcs] [nb n arcs] _ (Yi n arcs arcs[k].to) ⟨by simp,by simp⟩ rfl ?_ (by simp) rfl rfl trivial ?_
  ·simp [aG,aK,aX,bQ,wkL,wk,pos]
  cases ht:nP n arcs[k].to with
  | false =>
   simp -implicitDefEqProofs only [rX,↓rY,aA,↓reduceIte,Nat.reduceEqDiff,Nat.reduceAdd,aQ,aU,wfV,bH,cB,cK,ren,nb]
   exact bad (by simp [fZ,ht])
  | true =>
   simp -implicitDefEqProofs only [rX,↓rY,aA,↓reduceIte,Nat.reduceEqDiff,Nat.reduceAdd,aQ,aU,leE,leH,leB,leV,bA,aD,aB,wfE,wfB,wfV,wfL,oP,oO,sR,u9,bH,cB,cK,ren,nb]
   simp only [br,decide_eq_true_eq,decide_eq_false_iff_not,fZ,hf,ht,Bool.true_and] at bad good ⊢
   simp only [lo,hi,maxLen,beq_iff_eq,beq_eq_false_iff_ne] at *
   repeat' (first|(refine ⟨(k+1:_),?_⟩)|(refine ⟨by omega,?_⟩)|(refine And.intro ?_ ?_)|(refine (fun _=>?_)))
   all_goals first|omega|(apply bad;omega)|(apply good;omega)
end Go.Fx.P.K
namespace Go.Fx.P.K
open Go Go.Fx Go.Fx.E Go.Proofs
set_option maxRecDepth 20000
structure Val (N:Nat) (arcs:List Arc):Prop where
 hn:1≤N∧N≤256
 hl:arcs.length≤2048
 ha:∀ a∈arcs,(0≤a.from_∧a.from_<N)∧(0≤a.to∧a.to<N)∧a.from_≠a.to∧(0≤a.cap∧a.cap≤1073741824)∧0≤a.cost∧a.cost≤1048576
theorem Val.of {n:Int} {arcs:List Arc} (h:iL n arcs=0):∃ N:Nat,n=N∧Val N arcs:=by
 unfold iL at h
 split at h
 ·cases h
 ·split at h
  ·cases h
  ·split at h
   ·rename_i h1 h2 h3
    refine ⟨n.toNat,by omega,by omega,by omega,fun a ha=>?_⟩
    rw [List.all_eq_true] at h3
    have:=h3 a ha
    simp only [fZ,nP,ybc,decide_eq_true_eq] at this
    omega
   ·cases h
theorem Val.chk {N:Nat} {arcs:List Arc} (h:Val N arcs):iL N arcs=0:=by
 obtain ⟨h1,h2,h3⟩:=h
 refine Hy (by omega) (by omega) fun k hk=>?_
 have:=h3 _ (yat hk)
 simp only [fZ,nP,ybc,decide_eq_true_eq]
 omega
def Rc (arcs:List Arc) (flow:List Int):Prop:=∀ i (h1:i<flow.length) (h2:i<arcs.length),0≤flow[i]∧flow[i]≤arcs[i].cap
theorem Val.flow {N:Nat} {arcs:List Arc} (h:Val N arcs) {flow:List Int} (hl:flow.length=arcs.length) (hp:Rc arcs flow):∀ x∈flow,0≤x∧x≤1073741824:=by
 intro x hx
 obtain ⟨i,hi,rfl⟩:=ybi hx
 have h1:=hp i hi (by omega)
 have h2:=(h.ha arcs[i] (yat _))
 omega
def valTo (arcs:List Arc) (node:Int) (flow:List Int):Nat→Int
 | 0=>0
 | k+1=>valTo arcs node flow k+(if (arcs.getD k ⟨0,0,0,0⟩).from_=node then flow.getD k 0 else 0)-(if (arcs.getD k ⟨0,0,0,0⟩).to=node then flow.getD k 0 else 0)
theorem So {flow:List Int} (hf:∀ x∈flow,0≤x∧x≤1073741824) (k:Nat):0≤flow.getD k 0∧flow.getD k 0≤1073741824:=by
 rw [yag]
 cases h:flow[k]? with
 | none=>simp
 | some x=>exact hf x (ybW h)
theorem In {arcs:List Arc} {node:Int} {flow:List Int} {k:Nat} (h1:k<arcs.length) (h2:k<flow.length):valTo arcs node flow (k+1)=valTo arcs node flow k+(if arcs[k].from_=node then flow[k] else 0)-(if arcs[k].to=node then flow[k] else 0):=by
 simp only [valTo,yag,yal h1,yal h2,yaw]
def d8 (arcs:List Arc) (flow:List Int):Nat→Int
 | 0=>0
 | k+1=>d8 arcs flow k+flow.getD k 0*(arcs.getD k ⟨0,0,0,0⟩).cost
theorem xL {arcs:List Arc} {flow:List Int} {k:Nat} (h1:k<arcs.length) (h2:k<flow.length):d8 arcs flow (k+1)=d8 arcs flow k+flow[k]*arcs[k].cost:=by
 simp only [d8,yag,yal h1,yal h2,yaw]
theorem Mg {a b:Int} (h1:0≤a∧a≤1073741824) (h2:0≤b∧b≤1048576):0≤a*b∧a*b≤1125899906842624:=by
 refine ⟨Int.mul_nonneg h1.1 h2.1,?_⟩
 have:=Int.mul_le_mul h1.2 h2.2 h2.1 (by omega)
 omega
theorem uU (arcs:List Arc) (flow:List Int) (hf:∀ x∈flow,0≤x∧x≤1073741824) (ha:∀ a∈arcs,0≤a.cost∧a.cost≤1048576):∀ k:Nat,0≤d8 arcs flow k∧d8 arcs flow k≤(k:Int)*1125899906842624
 | 0=>by simp [d8]
 | k+1=>by
  have h1:=uU arcs flow hf ha k
  have h2:=So hf k
  have h3:0≤(arcs.getD k ⟨0,0,0,0⟩).cost∧(arcs.getD k ⟨0,0,0,0⟩).cost≤1048576:=by
   rw [yag]
   cases h:arcs[k]? with
   | none=>simp
   | some x=>exact ha x (ybW h)
  have:=Mg h2 h3
  simp only [d8]
  omega
end Go.Fx.P.K
namespace Go.Fx.P.K
open Go Go.Fx Go.Fx.E Go.Proofs
set_option maxRecDepth 20000
structure OkF (n:Int) (arcs:List Arc) (f t:Int) (flow:List Int):Prop where
 hl:flow.length=arcs.length
 hp:Rc arcs flow
 hz:∀ j:Int,0≤j→j<n→j≠f→j≠t→valTo arcs j flow arcs.length=0
structure PInv (arcs:List Arc) (flow:List Int) (k:Nat):Prop where
 h:∀ j (h1:j<flow.length) (h2:j<arcs.length),j<k→0≤flow[j]∧flow[j]≤arcs[j].cap
def hasB (l:List Int) (x:Int):Bool:=decide (x∈l)
structure OkP (N:Nat) (arcs:List Arc) (f:Int) (flow price:List Int):Prop where
 hl:price.length=N
 h0:price.getD f.toNat 0=0
 hb:∀ j (h:j<price.length),0≤price[j]∧price[j]≤1073741824
 ha:∀ k (h:k<arcs.length),(arcs[k].cost+price.getD arcs[k].from_.toNat 0-price.getD arcs[k].to.toNat 0<0→arcs[k].cap≤flow.getD k 0)∧(0<arcs[k].cost+price.getD arcs[k].from_.toNat 0-price.getD arcs[k].to.toNat 0→flow.getD k 0≤0)
open Classical in
noncomputable def prB (N:Nat) (arcs:List Arc) (f:Int) (flow price:List Int):Bool:=decide (OkP N arcs f flow price)
theorem Yc {N:Nat} {arcs:List Arc} {f:Int} {flow price:List Int} (h:OkP N arcs f flow price):true=prB N arcs f flow price:=by simp [prB,h]
theorem Gl {N:Nat} {arcs:List Arc} {f:Int} {flow price:List Int} (h:¬OkP N arcs f flow price):false=prB N arcs f flow price:=by simp [prB,h]
theorem getD_at {l:List Int} {i:Int} (h:0≤i∧i<l.length):l.getD i.toNat 0=l[i.toNat]'(by omega):=by
 rw [yag,yal (by omega)];rfl
theorem bY {l:List Int} {k:Nat} (h:k<l.length):l.getD k 0=l[k]:=by
 rw [yag,yal h];rfl
structure RInv (arcs:List Arc) (flow price:List Int) (k:Nat):Prop where
 h:∀ k' (h:k'<arcs.length),k'<k→(arcs[k'].cost+price.getD arcs[k'].from_.toNat 0-price.getD arcs[k'].to.toNat 0<0→arcs[k'].cap≤flow.getD k' 0)∧(0<arcs[k'].cost+price.getD arcs[k'].from_.toNat 0-price.getD arcs[k'].to.toNat 0→flow.getD k' 0≤0)
theorem RInv.next {arcs:List Arc} {flow price:List Int} {k:Nat} (hv:RInv arcs flow price k) (hk:k<arcs.length) (h:(arcs[k].cost+price.getD arcs[k].from_.toNat 0-price.getD arcs[k].to.toNat 0<0→arcs[k].cap≤flow.getD k 0)∧(0<arcs[k].cost+price.getD arcs[k].from_.toNat 0-price.getD arcs[k].to.toNat 0→flow.getD k 0≤0)):RInv arcs flow price (k+1):=by
 refine ⟨fun j hj h2=>?_⟩
 by_cases h6:j=k
 ·subst h6;exact h
 ·exact hv.h j hj (by omega)
end Go.Fx.P.K
namespace Go.Fx.P.K
open Go Go.Fx Go.Fx.E Go.Proofs
set_option maxRecDepth 20000
structure OkS (n:Int) (cut:List Int) (k:Nat):Prop where
 h:∀ j (h:j<cut.length),j<k→(0≤cut[j]∧cut[j]<n)∧(0<j→cut.getD (j-1) 0<cut[j])
theorem OkS.next {n:Int} {cut:List Int} {k:Nat} (hv:OkS n cut k) (hk:k<cut.length) (h:(0≤cut[k]∧cut[k]<n)∧(0<k→cut.getD (k-1) 0<cut[k])):OkS n cut (k+1):=by
 refine ⟨fun j hj h2=>?_⟩
 by_cases h6:j=k
 ·subst h6;exact h
 ·exact hv.h j hj (by omega)
structure OkA (arcs:List Arc) (flow:List Int) (cut:List Int) (k:Nat):Prop where
 h:∀ j (h:j<arcs.length),j<k→(hasB cut arcs[j].from_=true→hasB cut arcs[j].to=false→flow.getD j 0=arcs[j].cap)∧(hasB cut arcs[j].to=true→hasB cut arcs[j].from_=false→flow.getD j 0=0)
theorem OkA.next {arcs:List Arc} {flow cut:List Int} {k:Nat} (hv:OkA arcs flow cut k) (hk:k<arcs.length) (h:(hasB cut arcs[k].from_=true→hasB cut arcs[k].to=false→flow.getD k 0=arcs[k].cap)∧(hasB cut arcs[k].to=true→hasB cut arcs[k].from_=false→flow.getD k 0=0)):OkA arcs flow cut (k+1):=by
 refine ⟨fun j hj h2=>?_⟩
 by_cases h6:j=k
 ·subst h6;exact h
 ·exact hv.h j hj (by omega)
structure OkC (n:Int) (arcs:List Arc) (f t:Int) (flow cut:List Int):Prop where
 hs:OkS n cut cut.length
 hf:hasB cut f=true
 ht:hasB cut t=false
 ha:OkA arcs flow cut arcs.length
open Classical in
noncomputable def cuB (n:Int) (arcs:List Arc) (f t:Int) (flow cut:List Int):Bool:=decide (OkC n arcs f t flow cut)
theorem Ys {n:Int} {arcs:List Arc} {f t:Int} {flow cut:List Int} (h:OkC n arcs f t flow cut):true=cuB n arcs f t flow cut:=by simp [cuB,h]
theorem Ht {n:Int} {arcs:List Arc} {f t:Int} {flow cut:List Int} (h:¬OkC n arcs f t flow cut):false=cuB n arcs f t flow cut:=by simp [cuB,h]
def frB (fr:Fr):Blk:=.var [.i fr.sent,.i fr.cost,.ro 1 (fr.flow.map encI),.ro 1 (fr.price.map encI),.ro 1 (fr.cut.map encI)]
structure OkAc (N:Nat) (arcs:List Arc) (f t am:Int) (fr:Fr):Prop where
 fl:OkF N arcs f t fr.flow
 hs:0≤fr.sent∧fr.sent≤am
 hv:valTo arcs f fr.flow arcs.length=fr.sent
 ht:d8 arcs fr.flow arcs.length=fr.cost
 hp:OkP N arcs f fr.flow fr.price
 hc:if fr.sent=am then fr.cut=[] else OkC N arcs f t fr.flow fr.cut
open Classical in
noncomputable def accI (N:Nat) (arcs:List Arc) (f t am:Int) (fr:Fr):Int:=if OkAc N arcs f t am fr then 0 else 110
theorem Ub {N:Nat} {arcs:List Arc} {f t am:Int} {fr:Fr} (h:OkAc N arcs f t am fr):0=accI N arcs f t am fr:=by simp [accI,h]
theorem rH {N:Nat} {arcs:List Arc} {f t am:Int} {fr:Fr} (h:¬OkAc N arcs f t am fr):110=accI N arcs f t am fr:=by simp [accI,h]
end Go.Fx.P.K
namespace Go.Fx.P
open Go Go.Fx Go.Fx.E Go.Proofs
set_option maxRecDepth 20000
theorem oZ {ps:List aF} {rs:List Road}:(bJ ps rs).length=ps.length+(ofN ps 1 ps.length).length+(ofN ps 3 ps.length).length+rs.length:=by
 simp only [bJ,nA4,nA3,nA2,nA1,yah,yam,ybz]
def nN (ps:List aF):Nat:=2+2*ps.length
theorem Md (ps:List aF):lZ ps=(nN ps:Int):=by simp only [lZ,nN];omega
theorem v8 {ps:List aF} {rs:List Road} (h:fQ ps rs=0):K.Val (nN ps) (bJ ps rs):=by
 obtain ⟨⟨hl,hr⟩,hc,hv⟩:=eG h
 have hlen:=w4 (ps:=ps) (l:=rs)
 refine ⟨by simp only [nN];omega,by simp only [bJ];omega,fun a ha=>?_⟩
 simp only [bJ,nA4,nA3,nA2,nA1,ybM,yaH,ybk] at ha
 simp only [nN]
 rcases ha with ((⟨i,hi,rfl⟩|⟨i,hi,rfl⟩)|⟨i,hi,rfl⟩)|⟨r,hr2,rfl⟩
 ·have:=nD hc i
  simp only [aP];omega
 ·have:=nD hc i
  have:=oY hi
  simp only [aS];omega
 ·have:=nD hc i
  have:=oY hi
  simp only [aO];omega
 ·obtain ⟨j,hj,rfl⟩:=ybi hr2
  obtain ⟨h1,h2,h3,h4,h5,_⟩:=hv.h j hj hj
  simp only [aR];omega
def agY (ps:List aF) (rs:List Road):Prop:=fQ ps rs=0∧ps.length≤10∧rs.length≤25
open Classical in
noncomputable def adU (ps:List aF) (rs:List Road) (fr:Fr):Int:=if fQ ps rs=0 then K.accI (nN ps) (bJ ps rs) 0 1 (dem ps) fr else fQ ps rs
theorem aeG (ps:List aF) (rs:List Road) (fr:Fr) (i:Nat) (hi:i<ps.length) (hl:ps.length≤fr.flow.length):Ok 31 [bD ps rs,fr.enc,.i i] (Is (.i (fr.flow.getD i 0))):=by
 refine ok_of lw31 (by simp) ?_
 unfold c31 bD sps rds Fr.enc li
 simp -implicitDefEqProofs only [rX,↓rY,aA,cells?,↓reduceIte,Nat.reduceEqDiff,Nat.reduceAdd,reduceCtorEq,aC,aQ,aU,wfV,yac,cR,yaa,cxN,aL]
 simp only [br,decide_eq_true_eq,decide_eq_false_iff_not,yaa]
 have e:fr.flow.getD i 0=fr.flow[i]'(by omega):=by rw [yag,yal (by omega),yaw]
 rw [yag] at e
 rw [e]
 exact ⟨fun h=>absurd h (by omega),fun _ _=>⟨fun h=>absurd h (by omega),fun _=>⟨⟨by omega,by omega⟩,by omega,rfl⟩⟩⟩
structure cF (ps:List aF) (rs:List Road) (fr:Fr):Prop where
 chk:fQ ps rs=0
 few:ps.length≤10∧rs.length≤25
 acc:K.OkAc (nN ps) (bJ ps rs) 0 1 (dem ps) fr
theorem cF.of {ps:List aF} {rs:List Road} {fr:Fr} (h:agY ps rs) (h2:adU ps rs fr=0):cF ps rs fr:=by
 refine ⟨h.1,h.2,?_⟩
 rw [adU,if_pos h.1,K.accI] at h2
 by_cases h3:K.OkAc (nN ps) (bJ ps rs) 0 1 (dem ps) fr
 ·exact h3
 ·rw [if_neg h3] at h2;cases h2
end Go.Fx.P
namespace Go.Fx.P.K
open Go Go.Fx Go.Fx.E Go.Proofs
set_option maxRecDepth 20000
def nZ (N:Nat) (f:Int→Int):List (List V):=(yan N).map fun j:Nat=>encI (f j)
theorem r5 {N:Nat} {f:Int→Int}:(nZ N f).length=N:=by simp [nZ]
theorem xZ {N:Nat} {f:Int→Int} {i:Nat} (h:i<(nZ N f).length):(nZ N f)[i]=encI (f i):=by simp [nZ]
theorem Qn {N:Nat} {f:Int→Int} {i:Nat} {x:Int}:(nZ N f).set i [.v (.int .i64 x)]=nZ N (fun j=>if j=i then x else f j):=by
 apply yaD
 ·simp [nZ]
 ·intro j h1 h2
  simp only [ybE,xZ]
  by_cases h:i=j
  ·subst h;simp [encI]
  ·have:¬(j:Int)=i:=by omega
   simp [h,this]
theorem Je {N:Nat} {f g:Int→Int} (h:∀ i:Nat,i<N→f i=g i):nZ N f=nZ N g:=by
 simp only [nZ,List.map_inj_left,ybk]
 intro i hi
 rw [h i hi]
theorem Qo {N:Nat} {x:Int}:yad N [V.v (.int .i64 x)]=nZ N (fun _=>x):=by
 apply yaD
 ·simp [nZ]
 ·intro i h1 h2
  simp [nZ,encI]
def oA (N:Nat) (f:Int→Bool):List (List V):=(yan N).map fun j:Nat=>vP (f j)
theorem Ga {N:Nat} {f:Int→Bool}:(oA N f).length=N:=by simp [oA]
theorem yA {N:Nat} {f:Int→Bool} {i:Nat} (h:i<(oA N f).length):(oA N f)[i]=vP (f i):=by simp [oA]
theorem Qp {N:Nat} {f:Int→Bool} {i:Nat} {x:Bool}:(oA N f).set i [.v (.bool x)]=oA N (fun j=>if j=i then x else f j):=by
 apply yaD
 ·simp [oA]
 ·intro j h1 h2
  simp only [ybE,yA]
  by_cases h:i=j
  ·subst h;simp [vP]
  ·have:¬(j:Int)=i:=by omega
   simp [h,this]
theorem Jf {N:Nat} {f g:Int→Bool} (h:∀ i:Nat,i<N→f i=g i):oA N f=oA N g:=by
 simp only [oA,List.map_inj_left,ybk]
 intro i hi
 rw [h i hi]
theorem Qq {N:Nat} {x:Bool}:yad N [V.v (.bool x)]=oA N (fun _=>x):=by
 apply yaD
 ·simp [oA]
 ·intro i h1 h2
  simp [oA,vP]
theorem mL (arcs:List Arc) (node:Int) (flow:List Int):∀ k:Nat,(∀ j,j<k→0≤flow.getD j 0∧flow.getD j 0≤1073741824)→-((k:Int)*1073741824)≤valTo arcs node flow k∧valTo arcs node flow k≤(k:Int)*1073741824
 | 0,_=>by simp [valTo]
 | k+1,hf=>by
  have h1:=mL arcs node flow k fun j hj=>hf j (by omega)
  have h2:=hf k (by omega)
  simp only [valTo]
  split<;>split<;>omega
theorem rP (arcs:List Arc) (flow:List Int) (ha:∀ a∈arcs,0≤a.cost∧a.cost≤1048576):∀ k:Nat,(∀ j,j<k→0≤flow.getD j 0∧flow.getD j 0≤1073741824)→0≤d8 arcs flow k∧d8 arcs flow k≤(k:Int)*1125899906842624
 | 0,_=>by simp [d8]
 | k+1,hf=>by
  have h1:=rP arcs flow ha k fun j hj=>hf j (by omega)
  have h2:=hf k (by omega)
  have h3:0≤(arcs.getD k ⟨0,0,0,0⟩).cost∧(arcs.getD k ⟨0,0,0,0⟩).cost≤1048576:=by
   rw [yag]
   cases h:arcs[k]? with
   | none=>simp
   | some x=>exact ha x (ybW h)
  have:=Mg h2 h3
  simp only [d8]
  omega
open Classical in
noncomputable def Bo (n:Int) (arcs:List Arc) (f t:Int) (fr:Fr):Bool:=decide (OkF n arcs f t fr.flow∧valTo arcs f fr.flow arcs.length=fr.sent∧d8 arcs fr.flow arcs.length=fr.cost)
theorem abM {n:Int} {arcs:List Arc} {f t:Int} {fr:Fr} (h:OkF n arcs f t fr.flow∧valTo arcs f fr.flow arcs.length=fr.sent∧d8 arcs fr.flow arcs.length=fr.cost):Bo n arcs f t fr=true:=by simp [Bo,h]
theorem Aj {n:Int} {arcs:List Arc} {f t:Int} {fr:Fr} (h:¬(OkF n arcs f t fr.flow∧valTo arcs f fr.flow arcs.length=fr.sent∧d8 arcs fr.flow arcs.length=fr.cost)):Bo n arcs f t fr=false:=by simp only [Bo,h,decide_false]
structure agT (arcs:List Arc) (f t s:Int) (flow:List Int) (k:Nat):Prop where
 h:∀ j:Nat,j<k→((j:Int)≠f→(j:Int)≠t→valTo arcs j flow arcs.length=0)∧((j:Int)=f→valTo arcs j flow arcs.length=s)
theorem aiZ (N:Nat) (arcs:List Arc) (f t:Int) (fr:Fr) (hV:Val N arcs) (hf:0≤f∧f<N):Ok 93 [net N arcs,.i f,.i t,fr.enc] (Is (.b (Bo N arcs f t fr))):=by
 refine ok_of lw93 (by simp) ?_
 unfold c93 net Fr.enc li
 have hL:=hV.hl
 have hN:=hV.hn
 have hac:=fun a ha=>(hV.ha a ha).2.2.2.2
 simp -implicitDefEqProofs only [rX,↓rY,aA,cells?,↓reduceIte,Nat.reduceEqDiff,Nat.reduceAdd,reduceCtorEq,aC,aQ,aU,wfV,yaa,cxN,aL]
 simp only [br,decide_eq_true_eq,decide_eq_false_iff_not,bne_iff_ne,bne_eq_false_iff_eq]
 refine fun hm1 hm2=>⟨fun h=>(Aj fun hO=>?_).symm,fun h=>⟨by omega,fun _=>?_⟩⟩
 ·have:=hO.1.hl;omega
 have hl:fr.flow.length=arcs.length:=by omega
 refine aV (fun k:Nat=>⟨[(29,.i k),(28,.i arcs.length),(27,.ro 4 (arcs.map Arc.enc)),(10,.i (d8 arcs fr.flow k)),(9,.sl 2 0 N),(7,.ptr 1 0 0),(4,.ptr 0 0 0),(2,.i t),(1,.i f)],[.var [.i N,.ro 4 (arcs.map Arc.enc)],frB fr,.arr 1 (nZ N (fun j=>valTo arcs j fr.flow k))],0⟩) (fun k=>k≤arcs.length∧PInv arcs fr.flow k) (fun k=>arcs.length-k) 0 ⟨by omega,⟨by simp⟩⟩ ?_ ?_
 ·have h0:nZ N (fun j=>valTo arcs j fr.flow 0)=yad N [V.i 0]:=by rw [Qo];rfl
  simp -implicitDefEqProofs only [rX,↓reduceIte,Nat.reduceEqDiff,reduceCtorEq,leE,leH,leB,leV,bA,aD,aB,wfE,wfB,wfV,wfL,bA,leV,yaj,frB,h0,d8]
 rintro k ⟨hk,hv⟩
 simp -implicitDefEqProofs only [rX,↓rY,aA,cells?,splice,↓reduceIte,Nat.reduceEqDiff,cU,Nat.reduceAdd,aC,aQ,aU,leE,leH,leB,leV,bA,aD,aB,wfE,wfB,wfV,wfL,isD,isC,yac,enc_len,fB,oP,oO,sR,u9,fO,cR,yaa,fG,frB,r5,xZ,Qn]
 simp only [br,decide_eq_true_eq,decide_eq_false_iff_not]
 refine ⟨fun h2=>?_,fun h2=>?_⟩
 ·have hk1:k<arcs.length:=by omega
  have hk2:k<fr.flow.length:=by omega
  have hva:=hV.ha arcs[k] (yat hk1)
  have bad:¬(0≤fr.flow[k]∧fr.flow[k]≤arcs[k].cap)→false=Bo N arcs f t fr:=fun h=>(Aj fun hO=>h (hO.1.hp k hk2 hk1)).symm
  have good:(0≤fr.flow[k]∧fr.flow[k]≤arcs[k].cap)→PInv arcs fr.flow (k+1):=by
   refine fun hx=>⟨fun j h3 h4 h5=>?_⟩
   by_cases h6:j=k
   ·subst h6;exact hx
   ·exact hv.h j h3 h4 (by omega)
  have hfb:∀ j,j<k→0≤fr.flow.getD j 0∧fr.flow.getD j 0≤1073741824:=by
   intro j hj
   have h1:=hv.h j (by omega) (by omega) hj
   have h3:=hV.ha arcs[j] (yat _)
   rw [bY (by omega)]
   omega
  have hb1:=mL arcs arcs[k].from_ fr.flow k hfb
  have hb2:=mL arcs arcs[k].to fr.flow k hfb
  have hb3:=rP arcs fr.flow hac k hfb
  have e1:((arcs[k].from_.toNat:Nat):Int)=arcs[k].from_:=by omega
  have e2:((arcs[k].to.toNat:Nat):Int)=arcs[k].to:=by omega
  have e3:¬arcs[k].to=arcs[k].from_:=by omega
  refine ⟨⟨by omega,h2⟩,by omega,⟨by omega,by omega⟩,by omega,fun h3=>bad (by omega),fun h3=>⟨fun h4=>bad (by omega),fun h4=>?_⟩⟩
  have hfk:0≤fr.flow[k]∧fr.flow[k]≤1073741824:=by omega
  have hmb:=Mg hfk hva.2.2.2.2
  have hst:=xL hk1 hk2
  simp only [e1,e2,e3,if_false,lo,hi,r5]
  repeat' (first|(refine ⟨(k+1:_),?_⟩)|(refine ⟨by omega,?_⟩)|(refine And.intro ?_ ?_)|(refine (fun _=>?_)))
  all_goals first|omega|(apply good;omega)|skip
  congr 1
  apply Je
  intro i hi
  simp only [In (node:=i) hk1 hk2]
  grind
 have hp:Rc arcs fr.flow:=fun i h3 h4=>hv.h i h3 h4 (by omega)
 have hk0:k=arcs.length:=by omega
 subst hk0
 refine fun _=>aV (fun k:Nat=>⟨[(72,.i k),(71,.i N),(70,.sl 2 0 N),(10,.i (d8 arcs fr.flow arcs.length)),(7,.ptr 1 0 0),(2,.i t),(1,.i f)],[.dead,frB fr,.arr 1 (nZ N (fun j=>valTo arcs j fr.flow arcs.length))],0⟩) (fun k=>k≤N∧agT arcs f t fr.sent fr.flow k) (fun k=>N-k) 0 ⟨by omega,⟨by simp⟩⟩ ?_ ?_
 ·simp -implicitDefEqProofs only [rX,↓reduceIte,Nat.reduceEqDiff,leE,leH,leB,leV,bA,aD,aB,wfE,wfB,wfV,wfL,bA,leV,yaj,frB]
 rintro k ⟨hk,hv⟩
 simp -implicitDefEqProofs only [rX,↓rY,aA,↓reduceIte,Nat.reduceEqDiff,cU,Nat.reduceAdd,aQ,aU,leE,leH,leB,leV,bA,aD,aB,wfE,wfB,wfV,wfL,cR,yaa,frB,r5,xZ]
 simp only [br,decide_eq_true_eq,decide_eq_false_iff_not,bne_iff_ne,bne_eq_false_iff_eq,beq_iff_eq,beq_eq_false_iff_ne]
 refine ⟨fun h3=>?_,fun h3=>?_⟩
 ·have h4:k<N:=by omega
  have bad1:(k:Int)=f→valTo arcs k fr.flow arcs.length≠fr.sent→false=Bo N arcs f t fr:=fun h h5=>(Aj fun hO=>h5 (by rw [h];exact hO.2.1)).symm
  have bad2:(k:Int)≠f→(k:Int)≠t→valTo arcs k fr.flow arcs.length≠0→false=Bo N arcs f t fr:=fun h h5 h6=>(Aj fun hO=>h6 (hO.1.hz k (by omega) (by omega) h h5)).symm
  have good:((k:Int)≠f→(k:Int)≠t→valTo arcs k fr.flow arcs.length=0)∧((k:Int)=f→valTo arcs k fr.flow arcs.length=fr.sent)→agT arcs f t fr.sent fr.flow (k+1):=by
   refine fun h5=>⟨fun j hj=>?_⟩
   by_cases h6:j=k
   ·subst h6;exact h5
   ·exact hv.h j (by omega)
  simp only [lo,hi,maxLen,r5] at *
  repeat' (first|(refine ⟨(k+1:_),?_⟩)|(refine ⟨by omega,?_⟩)|(refine And.intro ?_ ?_)|(refine (fun _=>?_)))
  all_goals first|omega|exact bad1 ‹_› ‹_›|exact bad2 ‹_› ‹_› ‹_›|(exact good ⟨fun _ _=>by first|assumption|omega,fun _=>by first|assumption|omega⟩)
 ·have hOF:OkF N arcs f t fr.flow:=⟨hl,hp,fun j h1 h2 h4 h6=>by
   have:=(hv.h j.toNat (by omega)).1
   rw [ybF h1] at this
   exact this h4 h6⟩
  have hval:valTo arcs f fr.flow arcs.length=fr.sent:=by
   have:=(hv.h f.toNat (by omega)).2
   rw [ybF hf.1] at this
   exact this rfl
  by_cases hc:d8 arcs fr.flow arcs.length=fr.cost<;>simp [Bo,hOF,hval,hc]
end Go.Fx.P.K
namespace Go.Fx.P.K
open Go Go.Fx Go.Fx.E Go.Proofs
def sm (g:Nat→Int):Nat→Int
 | 0=>0
 | n+1=>sm g n+g n
theorem Dz:∀ n,sm (fun _=>0) n=0
 | 0=>rfl
 | n+1=>by simp [sm,Dz n]
theorem rV {g h:Nat→Int}:∀ n,(∀ v,v<n→g v=h v)→sm g n=sm h n
 | 0,_=>rfl
 | n+1,hh=>by simp only [sm];rw [rV n fun v hv=>hh v (by omega),hh n (by omega)]
theorem Ix (g h:Nat→Int):∀ n,sm (fun v=>g v+h v) n=sm g n+sm h n
 | 0=>rfl
 | n+1=>by simp only [sm,Ix g h n];omega
theorem Qf (g h:Nat→Int):∀ n,sm (fun v=>g v-h v) n=sm g n-sm h n
 | 0=>rfl
 | n+1=>by simp only [sm,Qf g h n];omega
theorem Qg {g h:Nat→Int}:∀ n,(∀ v,v<n→g v≤h v)→sm g n≤sm h n
 | 0,_=>Int.le_refl _
 | n+1,hh=>by
  have:=Qg n fun v hv=>hh v (by omega)
  have:=hh n (by omega)
  simp only [sm];omega
theorem tJ (a:Nat) (c:Int):∀ n,sm (fun v=>if v=a then c else 0) n=if a<n then c else 0
 | 0=>by simp [sm]
 | n+1=>by
  simp only [sm,tJ a c n]
  by_cases h:a=n
  ·subst h;simp
  ·have h2:¬n=a:=fun e=>h e.symm
   rw [if_neg h2]
   by_cases h3:a<n
   ·rw [if_pos h3,if_pos (by omega)];omega
   ·rw [if_neg h3,if_neg (by omega)];omega
theorem Zy {g:Nat→Int} {a b:Nat} (hab:a≠b) {n:Nat} (ha:a<n) (hb:b<n) (h:∀ v,v<n→v≠a→v≠b→g v=0):sm g n=g a+g b:=by
 have:sm g n=sm (fun v=>(if v=a then g a else 0)+(if v=b then g b else 0)) n:=by
  refine rV n fun v hv=>?_
  by_cases h1:v=a
  ·subst h1
   rw [if_pos rfl,if_neg hab];omega
  ·rw [if_neg h1]
   by_cases h2:v=b
   ·subst h2;rw [if_pos rfl];omega
   ·rw [if_neg h2,h v hv h1 h2];rfl
 rw [this,Ix,tJ,tJ,if_pos ha,if_pos hb]
abbrev gA (arcs:List Arc) (k:Nat):Arc:=arcs.getD k ⟨0,0,0,0⟩
theorem gA_at {arcs:List Arc} {k:Nat} (h:k<arcs.length):gA arcs k=arcs[k]:=by
 unfold gA
 rw [yag,yal h];rfl
theorem Val.at {N:Nat} {arcs:List Arc} (hV:Val N arcs) {k:Nat} (hk:k<arcs.length):(0≤(gA arcs k).from_∧(gA arcs k).from_<N)∧(0≤(gA arcs k).to∧(gA arcs k).to<N)∧(gA arcs k).from_≠(gA arcs k).to∧(0≤(gA arcs k).cap∧(gA arcs k).cap≤1073741824)∧0≤(gA arcs k).cost∧(gA arcs k).cost≤1048576:=by
 rw [gA_at hk]
 exact hV.ha arcs[k] (yat hk)
theorem pot {N:Nat} {arcs:List Arc} (hV:Val N arcs) (fl:List Int) (p:Nat→Int):∀ k,k≤arcs.length →
  sm (fun v=>p v*valTo arcs v fl k) N=sm (fun j=>fl.getD j 0*(p (gA arcs j).from_.toNat-p (gA arcs j).to.toNat)) k
 | 0,_=>by
  simp only [valTo,ybl]
  rw [Dz];rfl
 | k+1,hk=>by
  have ih:=pot hV fl p k (by omega)
  have hv:=hV.at (show k<arcs.length by omega)
  have e:sm (fun v=>p v*valTo arcs v fl (k+1)) N=sm (fun v=>(p v*valTo arcs v fl k+(if v=(gA arcs k).from_.toNat then p (gA arcs k).from_.toNat*fl.getD k 0 else 0))-(if v=(gA arcs k).to.toNat then p (gA arcs k).to.toNat*fl.getD k 0 else 0)) N:=by
   refine rV N fun v _=>?_
   have hs:valTo arcs v fl (k+1)=valTo arcs v fl k+(if (gA arcs k).from_=v then fl.getD k 0 else 0)-(if (gA arcs k).to=v then fl.getD k 0 else 0):=rfl
   rw [hs,Int.mul_sub,Int.mul_add]
   have e1:p v*(if (gA arcs k).from_=(v:Int) then fl.getD k 0 else 0)=if v=(gA arcs k).from_.toNat then p (gA arcs k).from_.toNat*fl.getD k 0 else 0:=by
    by_cases h:(gA arcs k).from_=v
    ·have:v=(gA arcs k).from_.toNat:=by omega
     rw [if_pos h,if_pos this,←this]
    ·have:¬v=(gA arcs k).from_.toNat:=by omega
     rw [if_neg h,if_neg this,ybl]
   have e2:p v*(if (gA arcs k).to=(v:Int) then fl.getD k 0 else 0)=if v=(gA arcs k).to.toNat then p (gA arcs k).to.toNat*fl.getD k 0 else 0:=by
    by_cases h:(gA arcs k).to=v
    ·have:v=(gA arcs k).to.toNat:=by omega
     rw [if_pos h,if_pos this,←this]
    ·have:¬v=(gA arcs k).to.toNat:=by omega
     rw [if_neg h,if_neg this,ybl]
   rw [e1,e2]
  rw [e,Qf,Ix,tJ,tJ,if_pos (by omega),if_pos (by omega),ih]
  simp only [sm]
  rw [Int.mul_sub,Int.mul_comm (p _),Int.mul_comm (p _)]
  omega
theorem pot_flow {N:Nat} {arcs:List Arc} (hV:Val N arcs) {f t:Int} (hf:0≤f∧f<N) (ht:0≤t∧t<N) (hft:f≠t) (fl:List Int) (h0:∀ j:Int,0≤j→j<N→j≠f→j≠t→valTo arcs j fl arcs.length=0) (p:Nat→Int) :
  sm (fun j=>fl.getD j 0*(p (gA arcs j).from_.toNat-p (gA arcs j).to.toNat)) arcs.length=(p f.toNat-p t.toNat)*valTo arcs f fl arcs.length:=by
 have two:∀ p:Nat→Int,sm (fun j=>fl.getD j 0*(p (gA arcs j).from_.toNat-p (gA arcs j).to.toNat)) arcs.length=p f.toNat*valTo arcs f fl arcs.length+p t.toNat*valTo arcs t fl arcs.length:=by
  intro p
  rw [←pot hV fl p _ (yab _),Zy (a:=f.toNat) (b:=t.toNat) (by omega) (by omega) (by omega)]
  ·rw [ybF hf.1,ybF ht.1]
  ·intro v hv h1 h2
   rw [h0 v (by omega) (by omega) (by omega) (by omega),ybl]
 have h1:=two fun _=>1
 simp only [Int.sub_self,ybl,Int.one_mul] at h1
 rw [Dz] at h1
 rw [two p,Int.sub_mul]
 have:valTo arcs t fl arcs.length=- valTo arcs f fl arcs.length:=by omega
 rw [this,Int.mul_neg]
 omega
end Go.Fx.P.K
namespace Go.Fx.P.K
open Go Go.Fx Go.Fx.E Go.Proofs
set_option maxRecDepth 20000
def Hr (i:Nat):List V:=[.i i]
def bT (arcs:List Arc) (v:Nat) (k:Nat):List Nat:=(yan k).filter fun i=>decide ((gA arcs i).from_=v∨(gA arcs i).to=v)
def iJ (arcs:List Arc) (N:Nat):List (List V):=(yan N).map fun (v:Nat)=>[.ro 1 ((bT arcs v arcs.length).map Hr)]
theorem Gq {arcs:List Arc} {N:Nat}:(iJ arcs N).length=N:=by simp [iJ]
theorem Ri {arcs:List Arc} {N v:Nat} (h:v<(iJ arcs N).length):(iJ arcs N)[v]=[.ro 1 ((bT arcs v arcs.length).map Hr)]:=by simp [iJ]
theorem Dp {h:List Blk}:∀ {xs:List V},(∀ x∈xs,wfV h x)→wfL h xs
 | [],_=>trivial
 | x::r,hx=>⟨hx x yaO,Dp fun y hy=>hx y (yaP _ hy)⟩
theorem v6 {arcs:List Arc} {N:Nat} {h:List Blk}:wfL h (iJ arcs N).flatten:=by
 refine Dp fun x hx=>?_
 rw [List.mem_flatten] at hx
 obtain ⟨l,h1,h2⟩:=hx
 unfold iJ at h1
 rw [yaH] at h1
 obtain ⟨v,_,rfl⟩:=h1
 rw [List.mem_singleton] at h2
 subst h2
 trivial
theorem bW {arcs:List Arc} {N:Nat} {h:List Blk}:wfL h (iJ arcs N).flatten=True:=eq_true v6
theorem fS {arcs:List Arc} {N:Nat} {M:List Nat}:(iJ arcs N).map (bO M)=iJ arcs N:=by
 unfold iJ
 rw [ybb]
 rfl
theorem cH {arcs:List Arc} {N:Nat} {g:Nat→Option Nat}:(iJ arcs N).map (cK g)=iJ arcs N:=by
 unfold iJ
 rw [ybb]
 rfl
def wB (N M:Nat) (arcs:List Arc) (b c d:Nat):Blk:=.var [.i N,.ro 4 (arcs.map Arc.enc),.sl b 0 M,.sl c 0 N,.sl d 0 N]
def wH (N:Nat) (arcs:List Arc) (x p:List Int):List Blk:=[wB N x.length arcs 1 2 3,.arr 1 (x.map encI),.arv 1 (iJ arcs N),.arr 1 (p.map encI)]
structure WOk (N:Nat) (arcs:List Arc) (x p:List Int):Prop where
 hV:Val N arcs
 hN:N≤64
 hx:x.length=arcs.length
 hp:p.length=N
 hb:∀ j,0≤p.getD j 0∧p.getD j 0≤1073741824
theorem Yh (N:Nat) (arcs:List Arc) (x p:List Int) (v:Int):OkN Tryz.prog 125 [.ptr 0 0 0,.i v] (wH N arcs x p) [] (IsA (.clo 146 [.ptr 4 0 0,.ptr 5 0 0]) (wH N arcs x p++[.var [.ptr 0 0 0],.var [.i v]])):=by
 refine eS pol [0,1,2,3] lw125 (by simp) ⟨trivial,trivial,trivial,trivial,trivial⟩ (by simp [wH];omega) ?_
 unfold c125 wH wB
 simp -implicitDefEqProofs only [rX,↓rY,aA,cells?,↓reduceIte,Nat.reduceEqDiff,Nat.reduceAdd,reduceCtorEq,aC,aQ,aU,leH,leB,leV,bA,aD,aB,wfB,wfV,wfL,Nat.reduceLeDiff,cxN,aL,cQ,bW]
theorem Yg (N:Nat) (arcs:List Arc) (x p:List Int) (v to cost:Int) (a b c:V) (hW:WOk N arcs x p) (hv:0≤v∧v<N) (ht:0≤to∧to<N) (hc:-1048576≤cost∧cost≤1048576) :
  OkN Tryz.prog 126 [.ptr 0 0 0,.i v,.agg [a,.i to,b,.i cost,c]] (wH N arcs x p) [] (IsA (.i (cost+p.getD v.toNat 0-p.getD to.toNat 0)) (wH N arcs x p)):=by
 refine eS pol [0,1,2,3] lw126 (by simp) ⟨trivial,trivial,trivial,trivial,trivial⟩ (by simp [wH];omega) ?_
 have h1:=hW.hb v.toNat
 have h2:=hW.hb to.toNat
 have hp:=hW.hp
 have hN:=hW.hN
 rw [getD_at (by omega)] at h1 h2 ⊢
 rw [getD_at (l:=p) (i:=to) (by omega)]
 unfold c126 wH wB
 simp -implicitDefEqProofs only [rX,↓rY,aA,cells?,↓reduceIte,Nat.reduceEqDiff,cU,Nat.reduceAdd,reduceCtorEq,aC,aQ,aU,leH,leB,leV,bA,aD,aB,wfB,wfV,wfL,yac,cR,cxN,aL,cQ,bW]
 simp only [lo,hi]
 repeat' (first|(refine ⟨(0:_),?_⟩)|(refine ⟨by omega,?_⟩)|(refine And.intro ?_ ?_)|(refine (fun _=>?_)))
 all_goals omega
end Go.Fx.P.K
namespace Go.Fx.P.K
open Go Go.Fx Go.Fx.E Go.Proofs
set_option maxRecDepth 20000
def hpB (n:Nat) (ks vs:List Int):List Blk:=[.var [.sl 1 0 n,.sl 2 0 n],.arr 1 (ks.map encI),.arr 1 (vs.map encI)]
def lL (n:Nat) (ks vs:List Int) (k v:Int):Prop:=∃ j,j<n∧ks.getD j 0=k∧vs.getD j 0=v
def sw (l:List Int) (i k:Nat):List Int:=(l.set i (l.getD k 0)).set k (l.getD i 0)
theorem i7 {l:List Int} {i k:Nat}:(sw l i k).length=l.length:=by simp [sw]
theorem t8 {l:List Int} {i j:Nat} {x:Int} (h:i<l.length):(l.set i x).getD j 0=if j=i then x else l.getD j 0:=by
 rw [yag,List.getElem?_set]
 by_cases e:i=j
 ·subst e;simp [h]
 ·rw [if_neg e,if_neg (Ne.symm e),yag]
theorem xN {l:List Int} {i k j:Nat} (hi:i<l.length) (hk:k<l.length):(sw l i k).getD j 0=if j=k then l.getD i 0 else if j=i then l.getD k 0 else l.getD j 0:=by
 unfold sw
 rw [t8 (by simpa using hk),t8 hi]
theorem Ka {n:Nat} {ks vs:List Int} {i k:Nat} (hi:i<n) (hk:k<n) (h1:n≤ks.length) (h2:n≤vs.length) (a b:Int):lL n (sw ks i k) (sw vs i k) a b↔lL n ks vs a b:=by
 have key:∀ {ks vs:List Int},n≤ks.length→n≤vs.length→lL n (sw ks i k) (sw vs i k) a b→lL n ks vs a b:=by
  rintro ks vs h1 h2 ⟨j,hj,q1,q2⟩
  rw [xN (by omega) (by omega)] at q1 q2
  by_cases e1:j=k
  ·rw [if_pos e1] at q1 q2;exact ⟨i,hi,q1,q2⟩
  ·rw [if_neg e1] at q1 q2
   by_cases e2:j=i
   ·rw [if_pos e2] at q1 q2;exact ⟨k,hk,q1,q2⟩
   ·rw [if_neg e2] at q1 q2;exact ⟨j,hj,q1,q2⟩
 refine ⟨key h1 h2,fun h=>?_⟩
 have e:∀ {l:List Int},n≤l.length→sw (sw l i k) i k=l:=by
  intro l hl
  apply yaD
  ·simp [i7]
  ·intro j hj1 hj2
   have g:=xN (l:=sw l i k) (i:=i) (k:=k) (j:=j) (by rw [i7];omega) (by rw [i7];omega)
   rw [bY hj1] at g
   rw [g]
   simp only [xN (l:=l) (show i<l.length by omega) (show k<l.length by omega)]
   have:l.getD j 0=l[j]:=bY hj2
   grind
 exact key (by rw [i7];exact h1) (by rw [i7];exact h2) (by rw [e h1,e h2];exact h)
theorem mE {l:List Int} {i:Nat} {x:Int}:(l.map encI).set i [.v (.int .i64 x)]=(l.set i x).map encI:=by
 rw [ybI];rfl
theorem Rl (n:Nat) (ks vs:List Int) (i k:Nat) (hi:i<n) (hk:k<n) (h1:n≤ks.length) (h2:n≤vs.length):OkN Tryz.prog 145 [.ptr 0 0 0,.i i,.i k] (hpB n ks vs) [] (IsA (.tup []) (hpB n (sw ks i k) (sw vs i k))):=by
 refine eS pol [0,1,2] lw145 (by simp) ⟨trivial,trivial,trivial,trivial⟩ (by simp [hpB];omega) ?_
 unfold sw
 rw [bY (show i<ks.length by omega),bY (show i<vs.length by omega),bY (show k<ks.length by omega),bY (show k<vs.length by omega)]
 unfold c145 hpB
 simp -implicitDefEqProofs only [rX,↓rY,rdK,cells?,splice,↓reduceIte,Nat.reduceEqDiff,cU,Nat.reduceAdd,reduceCtorEq,aQ,aU,leH,leB,leV,bA,aD,aB,wfB,wfV,wfL,isD,isC,yac,cR,yaa,fG,cxN,aL,cQ,mE,List.length_set]
 repeat' (first|(refine ⟨(0:_),?_⟩)|(refine ⟨by omega,?_⟩)|(refine And.intro ?_ ?_)|(refine (fun _=>?_)))
 all_goals first|omega|rfl|simp
end Go.Fx.P.K
namespace Go.Fx.P.K
open Go Go.Fx Go.Fx.E Go.Proofs
set_option maxRecDepth 20000
structure nU (n:Nat) (ks vs:List Int) (key val:Int) (g:List Int × List Int):Prop where
 h1:g.1.length=n+1
 h2:g.2.length=n+1
 he:∀ a b,lL (n+1) g.1 g.2 a b↔(lL n ks vs a b∨(a=key∧b=val))
theorem Td {n:Nat} {ks vs:List Int} (h1:n≤ks.length) (h2:n≤vs.length) (key val a b:Int):lL (n+1) (ks.take n++[key]) (vs.take n++[val]) a b↔(lL n ks vs a b∨(a=key∧b=val)):=by
 have hg:∀ {l:List Int} {x:Int} {j:Nat},n≤l.length→(l.take n++[x]).getD j 0=if j<n then l.getD j 0 else if j=n then x else 0:=by
  intro l x j hl
  rw [yag]
  by_cases e:j<n
  ·rw [if_pos e,ybt (by rw [yas];omega),List.getElem?_take_of_lt e,yag]
  ·rw [if_neg e,ybr (by rw [yas];omega),yas,ybo hl]
   by_cases e2:j=n
   ·subst e2;simp
   ·rw [if_neg e2,ych (by simp;omega)];rfl
 constructor
 ·rintro ⟨j,hj,q1,q2⟩
  rw [hg h1] at q1
  rw [hg h2] at q2
  by_cases e:j<n
  ·rw [if_pos e] at q1 q2;exact .inl ⟨j,e,q1,q2⟩
  ·rw [if_neg e,if_pos (by omega)] at q1 q2;exact .inr ⟨q1.symm,q2.symm⟩
 ·rintro (⟨j,hj,q1,q2⟩|⟨rfl,rfl⟩)
  ·exact ⟨j,by omega,by rw [hg h1,if_pos hj];exact q1,by rw [hg h2,if_pos hj];exact q2⟩
  ·exact ⟨n,by omega,by rw [hg h1,if_neg (by omega),if_pos rfl],by rw [hg h2,if_neg (by omega),if_pos rfl]⟩
theorem Xz {i:Nat} (h:0<i):((i:Int)-1).tdiv 2=(((i-1)/2:Nat):Int):=by
 rw [Int.tdiv_eq_ediv_of_nonneg (by omega)]
 omega
abbrev Gm (n:Nat) (g:Nat × List Int × List Int):St:=⟨[(6,.i g.1),(0,.ptr 0 0 0)],hpB (n+1) g.2.1 g.2.2,0⟩
theorem acA (n:Nat) (ks vs:List Int) (key val:Int) (hn:n≤8796093022208) {RR:St→Prop} {X:Nat→St→Prop} (hX:∀ g,nU n ks vs key val g→∀ e b,X 0 ⟨e,hpB (n+1) g.1 g.2,b⟩)
  (g:Nat × List Int × List Int) (hg:g.1≤n∧nU n ks vs key val g.2) :
  aw (cxN Tryz.prog [0]) c123l0 (fun s'=>∃ g':Nat × List Int × List Int,((g'.1≤n∧nU n ks vs key val g'.2)∧g'.1<g.1)∧leS [0] s' (Gm n g')) X RR (Gm n g):=by
 obtain ⟨i,a,c⟩:=g
 obtain ⟨hi0,q1,q2,q3⟩:=hg
 simp only at hi0 q1 q2 q3
 have hex:∀ e b,X 0 ⟨e,hpB (n+1) a c,b⟩:=fun e b=>hX (a,c) ⟨q1,q2,q3⟩ e b
 unfold c123l0 Gm hpB
 unfold hpB at hex
 simp -implicitDefEqProofs only [rX,↓rY,aA,↓reduceIte,Nat.reduceEqDiff,cU,Nat.reduceAdd,reduceCtorEq,yac,cR,yaa,cxN]
 simp only [br,decide_eq_true_eq,decide_eq_false_iff_not]
 refine ⟨fun h0=>?_,fun h0=>hex _ _⟩
 rw [Xz (by omega)]
 have hi2:(i-1)/2<i:=by omega
 refine ⟨⟨by omega,by omega⟩,by omega,by simp only [lo,hi,maxLen] at *;omega,by omega,by simp only [lo,hi,maxLen] at *;omega,⟨by omega,by omega⟩,by simp;omega,fun hlt=>?_,fun _=>hex _ _⟩
 refine ⟨by simp only [lo,hi,maxLen] at *;omega,by omega,by simp only [lo,hi,maxLen] at *;omega,?_⟩
 refine dC [0,1,2] [.ptr 0 0 0,.i i,.i ((i-1)/2:Nat)] (.tup []) (.tup []) (hpB (n+1) a c) (hpB (n+1) (sw a i ((i-1)/2)) (sw c i ((i-1)/2))) (hpB (n+1) (sw a i ((i-1)/2)) (sw c i ((i-1)/2)))
  (Rl (n+1) a c i ((i-1)/2) (by omega) (by omega) (by omega) (by omega)) (by simp) rfl (by simp [aG,aK,aX,bQ,wkL,wk,pos]) (by simp [hpB]) rfl rfl ⟨trivial,trivial⟩ ?_
 unfold hpB
 simp -implicitDefEqProofs only [rX,↓rY,aA,↓reduceIte,Nat.reduceEqDiff,Nat.reduceAdd,reduceCtorEq,leE,leH,leB,leV,bA,aD,aB,wfE,wfB,wfV,wfL,yaa]
 rw [Xz (by omega)]
 refine ⟨by simp only [lo,hi,maxLen] at *;omega,by omega,by simp only [lo,hi,maxLen] at *;omega,((i-1)/2,sw a i ((i-1)/2),sw c i ((i-1)/2)),⟨⟨by show (i-1)/2≤n;omega,⟨?_,?_,fun x y=>?_⟩⟩,hi2⟩,?_⟩
 ·show (sw a i ((i-1)/2)).length=n+1
  rw [i7];exact q1
 ·show (sw c i ((i-1)/2)).length=n+1
  rw [i7];exact q2
 ·exact (Ka (by omega) (by omega) (by omega) (by omega) x y).trans (q3 x y)
 ·exact ⟨rfl,rfl,rfl⟩
theorem Tn (n:Nat) (ks vs:List Int) (key val:Int) (h1:n≤ks.length) (h2:n≤vs.length) (hn:n≤8796093022208) {RR:St→Prop} (hR:∀ g,nU n ks vs key val g→∀ e b,RR ⟨e,hpB (n+1) g.1 g.2,b⟩) :
  aw (cxN Tryz.prog [0]) c123 RR (fun _ _=>False) RR ⟨aL 0 [.ptr 0 0 0,.i key,.i val],hpB n ks vs,0⟩:=by
 unfold c123 hpB
 have t1:yai n (ks.map encI)++[[V.i key]]=(ks.take n++[key]).map encI:=by rw [yap,yaN];rfl
 have t2:yai n (vs.map encI)++[[V.i val]]=(vs.take n++[val]).map encI:=by rw [yap,yaN];rfl
 have l1:(ks.take n++[key]).length=n+1:=by simp;omega
 have l2:(vs.take n++[val]).length=n+1:=by simp;omega
 simp -implicitDefEqProofs only [rX,↓rY,rdK,aA,cells?,splice,↓reduceIte,Nat.reduceEqDiff,Nat.reduceAdd,reduceCtorEq,aC,cG,bN,bE,kill,bO,St.kill,isD,isC,Nat.reduceLT,Nat.reduceLeDiff,cxN,aL,t1,t2]
 have he:=Td h1 h2 key val
 generalize ks.take n++[key]=ks' at *
 generalize vs.take n++[val]=vs' at *
 repeat' (first|omega|refine And.intro ?_ ?_|refine fun hm=>?_)
 all_goals first|(simp only [lo,hi,maxLen] at *;omega)|skip
 all_goals
  refine aV (Gm n) (fun g=>g.1≤n∧nU n ks vs key val g.2) (fun g=>g.1) (n,ks',vs') ⟨yab _,l1,l2,he⟩ ?_ (acA n ks vs key val hn (fun g hg e b=>hR g hg e b))
  unfold Gm hpB
  simp -implicitDefEqProofs only [rX,↓reduceIte,reduceCtorEq,leE,leH,leB,leV,bA,aD,aB,wfE,wfB,wfV,wfL]
  omega
theorem aeU (n:Nat) (ks vs:List Int) (key val:Int) (h1:n≤ks.length) (h2:n≤vs.length) (hn:n≤8796093022208) :
  OkN Tryz.prog 123 [.ptr 0 0 0,.i key,.i val] (hpB n ks vs) [1,2] (IsQ (nU n ks vs key val) (fun _=>.tup []) (fun g=>hpB (n+1) g.1 g.2)):=by
 refine eS pol [0] lw123 (by simp) ⟨trivial,trivial⟩ (by simp [hpB];omega) ?_
 refine Tn n ks vs key val h1 h2 hn fun g hg e b=>?_
 refine dV g hg ?_
 unfold hpB
 simp -implicitDefEqProofs only [rX,Nat.reduceAdd,aQ,aU,leH,leB,leV,bA,aD,aB,wfB,wfV,wfL]
end Go.Fx.P.K
namespace Go.Fx.P.K
open Go Go.Fx Go.Fx.E Go.Proofs
set_option maxRecDepth 20000
theorem Te {n:Nat} {ks vs:List Int} (hn:0<n) (a b:Int):lL n ks vs a b↔(lL (n-1) ks vs a b∨(a=ks.getD (n-1) 0∧b=vs.getD (n-1) 0)):=by
 constructor
 ·rintro ⟨j,hj,q1,q2⟩
  by_cases e:j=n-1
  ·subst e;exact .inr ⟨q1.symm,q2.symm⟩
  ·exact .inl ⟨j,by omega,q1,q2⟩
 ·rintro (⟨j,hj,q1,q2⟩|⟨q1,q2⟩)
  ·exact ⟨j,by omega,q1,q2⟩
  ·exact ⟨n-1,by omega,q1.symm,q2.symm⟩
structure Xn (n:Nat) (E:Int→Int→Prop) (ks vs:List Int):Prop where
 h1:n≤ks.length
 h2:n≤vs.length
 he:∀ a b,lL n ks vs a b↔E a b
structure Xm (n:Nat) (ks vs:List Int) (g:(Int × Int) × List Int × List Int):Prop where
 hin:lL n ks vs g.1.1 g.1.2
 h1:n-1≤g.2.1.length
 h2:n-1≤g.2.2.length
 he:∀ a b,lL n ks vs a b↔(lL (n-1) g.2.1 g.2.2 a b∨(a=g.1.1∧b=g.1.2))
def e40 (key v:Int) (last i least:Nat):Env:=[(8,.i least),(7,.i i),(6,.i last),(5,.i v),(4,.i key),(0,.ptr 0 0 0)]
def h40 (last i:Nat) (ks vs:List Int):List Blk:=hpB last ks vs++[.arr 1 [[.i (2*i+1)],[.i (2*i+2)]]]
abbrev yP (key v:Int) (last i:Nat) (ks vs:List Int) (g:Nat × Nat):St:=⟨(59,.i g.1)::(58,.i 2)::(57,.sl 3 0 2)::e40 key v last i g.2,h40 last i ks vs,0⟩
theorem Xd (key v:Int) (last i:Nat) (ks vs:List Int) (hl:last≤8796093022208) (hi0:i≤last) (h1:last≤ks.length) (h2:last≤vs.length) {RR:St→Prop} {X:Nat→St→Prop}
  (hX:∀ least:Nat,(least=i∨(i<least∧least<last))→∀ y z b,X 2 ⟨(60,y)::(59,z)::(58,.i 2)::(57,.sl 3 0 2)::e40 key v last i least,h40 last i ks vs,b⟩)
  (g:Nat × Nat) (hg:g.1≤2∧(g.2=i∨(i<g.2∧g.2<last))) :
  aw (cxN Tryz.prog [0,1,2]) c124l1 (fun s'=>∃ g':Nat × Nat,((g'.1≤2∧(g'.2=i∨(i<g'.2∧g'.2<last)))∧2-g'.1<2-g.1)∧leS [0,1,2] s' (yP key v last i ks vs g')) X RR (yP key v last i ks vs g):=by
 obtain ⟨j,least⟩:=g
 obtain ⟨hj,hleast⟩:=hg
 simp only at hj hleast
 unfold c124l1 yP e40 h40 hpB
 have hex:=hX least hleast
 unfold e40 h40 hpB at hex
 have hj3:j=0∨j=1∨j=2:=by omega
 have t1:((2:Int)*i+1).toNat=2*i+1:=by omega
 have t2:((2:Int)*i+2).toNat=2*i+2:=by omega
 rcases hj3 with rfl|rfl|rfl
 ·simp -implicitDefEqProofs only [rX,↓rY,aA,↓reduceIte,Nat.reduceEqDiff,cU,Nat.reduceAdd,reduceCtorEq,leE,leH,leB,leV,bA,aD,aB,wfE,wfB,wfV,wfL,yac,cR,yaa,cxN,yaj]
  simp only [br,decide_eq_true_eq,decide_eq_false_iff_not,lo,hi,maxLen] at *
  refine ⟨fun _=>⟨⟨by omega,by omega⟩,by simp,?_⟩,fun h=>absurd h (by decide)⟩
  simp only [Int.toNat_zero,yci,yau,qas,kZ,t1]
  refine ⟨trivial,fun hlt=>⟨⟨by omega,by omega⟩,by omega,⟨by omega,by omega⟩,by omega,fun _=>⟨by omega,(1,2*i+1),⟨⟨by simp,by right;show i<2*i+1∧2*i+1<last;omega⟩,by simp⟩,by simp,by simp⟩,fun _=>⟨by omega,(1,least),⟨⟨by simp,hleast⟩,by simp⟩,by simp,rfl⟩⟩,
   fun hge=>⟨by omega,(1,least),⟨⟨by simp,hleast⟩,by simp⟩,by simp,rfl⟩⟩
 ·simp -implicitDefEqProofs only [rX,↓rY,aA,↓reduceIte,Nat.reduceEqDiff,cU,Nat.reduceAdd,reduceCtorEq,leE,leH,leB,leV,bA,aD,aB,wfE,wfB,wfV,wfL,yac,cR,yaa,cxN,Int.natCast_one]
  simp only [br,decide_eq_true_eq,decide_eq_false_iff_not,lo,hi,maxLen] at *
  refine ⟨fun _=>⟨⟨by omega,by omega⟩,by simp,?_⟩,fun h=>absurd h (by decide)⟩
  simp only [Int.toNat_one,yci,List.getElem_cons_succ,yau,qas,kZ,t2]
  refine ⟨trivial,fun hlt=>⟨⟨by omega,by omega⟩,by omega,⟨by omega,by omega⟩,by omega,fun _=>⟨by omega,(2,2*i+2),⟨⟨by simp,by right;show i<2*i+2∧2*i+2<last;omega⟩,by simp⟩,by simp,by simp⟩,fun _=>⟨by omega,(2,least),⟨⟨by simp,hleast⟩,by simp⟩,by simp,rfl⟩⟩,
   fun hge=>⟨by omega,(2,least),⟨⟨by simp,hleast⟩,by simp⟩,by simp,rfl⟩⟩
 ·simp -implicitDefEqProofs only [rX,↓rY,aA,↓reduceIte,Nat.reduceEqDiff,cU,Nat.reduceAdd,reduceCtorEq,leE,leH,leB,leV,bA,aD,aB,wfE,wfB,wfV,wfL,Nat.reduceLT,yac,cR,yaa,cxN]
  simp only [br,decide_eq_true_eq,decide_eq_false_iff_not,lo,hi,maxLen] at *
  exact ⟨fun h=>absurd h (by decide),fun _=>hex _ _ _⟩
abbrev yO (key v:Int) (last:Nat) (g:Nat × List Int × List Int):St:=⟨[(7,.i g.1),(6,.i last),(5,.i v),(4,.i key),(0,.ptr 0 0 0)],hpB last g.2.1 g.2.2,0⟩
theorem Xc (key v:Int) (last:Nat) (E:Int→Int→Prop) (hl:last≤8796093022208) {RR:St→Prop} {X:Nat→St→Prop} (hR:∀ ks vs,Xn last E ks vs→∀ e h b,RR ⟨(3,.i v)::(2,.i key)::e,hpB last ks vs++h,b⟩)
  (g:Nat × List Int × List Int) (hg:g.1≤last∧Xn last E g.2.1 g.2.2) :
  aw (cxN Tryz.prog [0,1,2]) c124l0 (fun s'=>∃ g':Nat × List Int × List Int,((g'.1≤last∧Xn last E g'.2.1 g'.2.2)∧last-g'.1<last-g.1)∧leS [0,1,2] s' (yO key v last g')) X RR (yO key v last g):=by
 obtain ⟨i,ks,vs⟩:=g
 obtain ⟨hi0,hP⟩:=hg
 simp only at hi0 hP
 have hRp:=hR ks vs hP
 unfold hpB at hRp
 unfold c124l0 yO hpB
 simp -implicitDefEqProofs only [rX,↓rY,aA,cells?,↓reduceIte,Nat.reduceEqDiff,Nat.reduceAdd,aC,cG,isD,Nat.reduceLT,cxN]
 refine ⟨by simp only [lo,hi];omega,by simp only [lo,hi];omega,by simp only [lo,hi];omega,by simp only [lo,hi];omega,?_⟩
 intro _
 refine aV (yP key v last i ks vs) (fun g=>g.1≤2∧(g.2=i∨(i<g.2∧g.2<last))) (fun g=>2-g.1) (0,i) ⟨by simp,.inl rfl⟩ ?_ (Xd key v last i ks vs hl hi0 hP.h1 hP.h2 ?_)
 ·unfold yP e40 h40 hpB
  simp -implicitDefEqProofs only [rX,↓reduceIte,Nat.reduceEqDiff,reduceCtorEq,leE,leH,leB,leV,bA,aD,aB,wfE,wfB,wfV,wfL,yaj]
  rfl
 intro least hleast y z b
 unfold e40 h40 hpB
 simp -implicitDefEqProofs only [rX,↓rY,↓reduceIte,Nat.reduceEqDiff,Nat.reduceAdd,reduceCtorEq]
 simp only [br,beq_iff_eq,beq_eq_false_iff_ne]
 refine ⟨fun h=>hRp _ [_] _,fun h=>?_⟩
 have hne:least≠i:=by omega
 have hlt:i<least∧least<last:=by omega
 refine dC [0,1,2] [.ptr 0 0 0,.i i,.i least] (.tup []) (.tup []) (hpB last ks vs) (hpB last (sw ks i least) (sw vs i least)) (hpB last (sw ks i least) (sw vs i least)++[.arr 1 [[.i (2*i+1)],[.i (2*i+2)]]])
  (Rl last ks vs i least (by omega) (by omega) hP.h1 hP.h2) (by simp) rfl (by simp [aG,aK,aX,bQ,wkL,wk,pos]) (by simp [hpB]) rfl rfl (by simp [aD,aB,hpB]) ?_
 unfold hpB
 simp -implicitDefEqProofs only [rX,↓reduceIte,Nat.reduceEqDiff,Nat.reduceAdd,reduceCtorEq,leE,leH,leB,leV,bA,aD,aB,wfE,wfB,wfV,wfL]
 refine ⟨(least,sw ks i least,sw vs i least),⟨⟨by show least≤last;omega,⟨by rw [i7];exact hP.h1,by rw [i7];exact hP.h2,fun a b=>?_⟩⟩,by show last-least<last-i;omega⟩,rfl,rfl,rfl⟩
 exact (Ka (by omega) (by omega) hP.h1 hP.h2 a b).trans (hP.he a b)
theorem aeT (n:Nat) (ks vs:List Int) (h0:0<n) (h1:n≤ks.length) (h2:n≤vs.length) (hn:n≤8796093022208) :
  OkN Tryz.prog 124 [.ptr 0 0 0] (hpB n ks vs) [] (IsQ (Xm n ks vs) (fun g=>.tup [.i g.1.1,.i g.1.2]) (fun g=>hpB (n-1) g.2.1 g.2.2)):=by
 refine eS pol [0,1,2] lw124 (by simp) ⟨trivial,trivial,trivial,trivial⟩ (by simp [hpB];omega) ?_
 unfold c124 hpB
 have hn1:((n:Int)-1)=((n-1:Nat):Int):=by omega
 simp -implicitDefEqProofs only [rX,↓rY,aA,↓reduceIte,Nat.reduceEqDiff,cU,Nat.reduceAdd,reduceCtorEq,yac,cR,cxN,aL,hn1]
 refine ⟨⟨by omega,by omega⟩,by simp;omega,⟨by omega,by omega⟩,by simp;omega,fun _=>⟨by simp only [lo,hi,maxLen] at *;omega,?_⟩⟩
 refine dC [0,1,2] [.ptr 0 0 0,.i 0,.i (n-1:Nat)] (.tup []) (.tup []) (hpB n ks vs) (hpB n (sw ks 0 (n-1)) (sw vs 0 (n-1))) (hpB n (sw ks 0 (n-1)) (sw vs 0 (n-1)))
  (Rl n ks vs 0 (n-1) (by omega) (by omega) h1 h2) (by simp) rfl (by simp [aG,aK,aX,bQ,wkL,wk,pos]) (by simp [hpB]) rfl rfl ⟨trivial,trivial,trivial,trivial⟩ ?_
 have k1:n≤(sw ks 0 (n-1)).length:=by rw [i7];exact h1
 have k2:n≤(sw vs 0 (n-1)).length:=by rw [i7];exact h2
 have g1:(sw ks 0 (n-1)).getD (n-1) 0=ks.getD 0 0:=by rw [xN (by omega) (by omega),if_pos rfl]
 have g2:(sw vs 0 (n-1)).getD (n-1) 0=vs.getD 0 0:=by rw [xN (by omega) (by omega),if_pos rfl]
 have hE:∀ a b,lL n ks vs a b↔(lL (n-1) (sw ks 0 (n-1)) (sw vs 0 (n-1)) a b∨(a=ks.getD 0 0∧b=vs.getD 0 0)):=by
  intro a b
  rw [←Ka (n:=n) (ks:=ks) (vs:=vs) (i:=0) (k:=n-1) (by omega) (by omega) h1 h2,Te h0,g1,g2]
 generalize sw ks 0 (n-1)=ks1 at *
 generalize sw vs 0 (n-1)=vs1 at *
 have e1:ks.getD 0 0=ks[yax 0]'(by simp;omega):=bY (by omega)
 have e2:vs.getD 0 0=vs[yax 0]'(by simp;omega):=bY (by omega)
 rw [e1,e2] at hE
 have hin:lL n ks vs (ks[yax 0]'(by simp;omega)) (vs[yax 0]'(by simp;omega)):=⟨0,h0,e1,e2⟩
 generalize ks[yax 0]'(by simp;omega)=key at *
 generalize vs[yax 0]'(by simp;omega)=v at *
 unfold hpB
 simp -implicitDefEqProofs only [rX,↓rY,rdK,aA,cells?,splice,↓reduceIte,Nat.reduceEqDiff,cU,Nat.reduceAdd,reduceCtorEq,dU,isC,Nat.reduceLeDiff,yaa]
 refine ⟨by omega,by omega,?_⟩
 refine aV (yO key v (n-1)) (fun g=>g.1≤n-1∧Xn (n-1) (lL (n-1) ks1 vs1) g.2.1 g.2.2) (fun g=>n-1-g.1) (0,ks1,vs1) ⟨by simp,by show n-1≤ks1.length;omega,by show n-1≤vs1.length;omega,fun a b=>Iff.rfl⟩ ?_ (Xc key v (n-1) _ (by omega) fun ks' vs' hP e h b=>?_)
 ·unfold yO hpB
  simp -implicitDefEqProofs only [rX,↓reduceIte,Nat.reduceEqDiff,reduceCtorEq,leE,leH,leB,leV,bA,aD,aB,wfE,wfB,wfV,wfL,yaj]
  exact ⟨rfl,rfl⟩
 refine dV ((key,v),ks',vs') ⟨hin,hP.h1,hP.h2,fun a b=>?_⟩ ?_
 ·rw [hE a b,←hP.he a b]
 unfold hpB
 simp -implicitDefEqProofs only [rX,↓reduceIte,Nat.reduceEqDiff,Nat.reduceAdd,aQ,aU,leH,leB,leV,bA,aD,aB,wfB,wfV,wfL]
end Go.Fx.P.K
namespace Go.Fx.P.K
open Go Go.Fx Go.Fx.E Go.Proofs
set_option maxRecDepth 20000
theorem agM {k:IntKind} {a c:Int} {K:V→Prop} {x:Bool}:cO .and x k a c K=K (.v (.int k (k.wrap ((yaf k.bits a &&& yaf k.bits c).toNat:Int)))):=rfl
theorem sh_r {k:IntKind} {a c:Int} {K:V→Prop}:cS .shr k a c K=(0≤c∧K (.v (.int k (a.fdiv (2 ^ (min c.toNat k.bits)))))):=rfl
theorem Az {a:Nat} (h:a<4294967296):IntKind.wrap .u64 (((yaf (IntKind.bits .u64) (a:Int) &&& yaf (IntKind.bits .u64) 4294967295).toNat:Nat):Int)=(a:Int):=by
 have h1:(yaf (IntKind.bits .u64) (a:Int) &&& yaf (IntKind.bits .u64) 4294967295).toNat=a:=by
  rw [BitVec.toNat_and]
  have e1:(yaf (IntKind.bits .u64) (a:Int)).toNat=a:=by
   rw [ybA]
   show (((a:Int)%((2 ^ 64:Nat):Int)).toNat)=a
   omega
  have e2:(yaf (IntKind.bits .u64) 4294967295).toNat=2 ^ 32-1:=by decide
  rw [e1,e2,Nat.and_two_pow_sub_one_eq_mod]
  omega
 rw [h1]
 exact dY .u64 _ (by simp only [lo,hi];omega)
theorem Qj {a:Nat} (h:a<4294967296):(a:Int).fdiv (2 ^ (min (yax 32) (IntKind.bits .u64)))=0:=by
 show (a:Int).fdiv (2 ^ 32)=0
 rw [yba _ (by decide)]
 omega
theorem aeK (n:Nat) (h:n<1000000):Ok 155 [.v (.int .u64 ((1:Nat):Int)),.v (.int .u64 n)] (Is (.tup [.v (.int .u64 ((0:Nat):Int)),.v (.int .u64 n)])):=by
 refine ok_of lw155 (by simp) ?_
 unfold c155
 have e1:=Az (a:=1) (by omega)
 have e0:=Az (a:=0) (by omega)
 have en:=Az (a:=n) (by omega)
 have s1:=Qj (a:=1) (by omega)
 have s0:=Qj (a:=0) (by omega)
 have sn:=Qj (a:=n) (by omega)
 have m1:((1:Nat):Int)*(n:Int)=n:=by simp
 have m0:(0:Int)*(n:Int)=0:=Int.zero_mul _
 have mz:((1:Nat):Int)*0=0:=rfl
 have zz:(0:Int)*0=0:=rfl
 have za:(0:Int)+0=0:=rfl
 have ez:IntKind.wrap .u64 (((yaf (IntKind.bits .u64) (0:Int) &&& yaf (IntKind.bits .u64) 4294967295).toNat:Nat):Int)=(0:Int):=e0
 have sz:(0:Int).fdiv (2 ^ (min (yax 32) (IntKind.bits .u64)))=0:=s0
 have h32:(0:Int)≤32:=by omega
 have b0:(lo .u64≤(0:Int)∧(0:Int)≤hi .u64):=by simp only [lo,hi];omega
 have bn:(lo .u64≤(n:Int)∧(n:Int)≤hi .u64):=by simp only [lo,hi];omega
 simp -implicitDefEqProofs only [rX,↓rY,aA,↓reduceIte,Nat.reduceEqDiff,reduceCtorEq,aQ,aU,wfV,wfL,cxN,aL,↓agM,↓sh_r,e1,en,s1,sn,m1,m0,mz,zz,za,ez,sz,eq_true h32,eq_true b0,eq_true bn]
 first|rfl|trivial
theorem aeN (n:Nat) (h:n<1000000):Ok 144 [.v (.int .u64 ((1:Nat):Int)),.v (.int .u64 n)] (Is (.tup [.v (.int .u64 ((0:Nat):Int)),.v (.int .u64 n)])):=by
 refine ok_of lw144 (by simp) ?_
 unfold c144
 simp -implicitDefEqProofs only [rX,↓rY,aA,↓reduceIte,Nat.reduceEqDiff,reduceCtorEq,cxN,aL]
 refine aE (aeK n h) ?_ rfl trivial ?_
 ·simp [aG,aK,aX,bQ,wkL,wk,pos]
 simp -implicitDefEqProofs only [rX,↓rY,↓reduceIte,Nat.reduceEqDiff,aQ,aU,wfV,wfL]
theorem Vv {n m:Nat} {x:List V}:yad n x++yad m x=yad (n+m) x:=by
 rw [List.replicate_append_replicate]
theorem aeV (N:Nat) (x:Int) (h1:1≤N) (h2:N≤1000):Ok 122 [.bro 1 [encI x],.i N] (IsA (.sl 0 0 N) [.arr 1 (yad N (encI x))]):=by
 refine ok_of lw122 (by simp) ?_
 unfold c122
 have w1:IntKind.wrap .u64 (((1:Nat):Int))=((1:Nat):Int):=dY .u64 _ (by simp only [lo,hi];omega)
 have wn:IntKind.wrap .u64 (N:Int)=N:=dY .u64 _ (by simp only [lo,hi];omega)
 have wi:IntKind.wrap .i64 (N:Int)=N:=dY .i64 _ (by simp only [lo,hi];omega)
 have hneg:decide ((N:Int)<0)=false:=decide_eq_false (by omega)
 have hz:decide ((0:Int)<((0:Nat):Int))=false:=rfl
 have hbig:decide ((9223372036854775807:Int)<(N:Int))=false:=decide_eq_false (by omega)
 have hff:(if false=true then (lo .u64≤0∧0≤hi .u64) else False)=False:=by simp
 simp -implicitDefEqProofs only [rX,↓rY,aA,↓reduceIte,Nat.reduceEqDiff,reduceCtorEq,cxN,aL,hneg]
 intro _
 simp -implicitDefEqProofs only [w1,wn]
 refine aE (aeN N (by omega)) ?_ rfl trivial ?_
 ·simp [aG,aK,aX,bQ,wkL,wk,pos,w1]
 simp -implicitDefEqProofs only [rX,↓rY,aA,↓reduceIte,Nat.reduceEqDiff,reduceCtorEq,aC,yaa,hz,hbig,wi]
 refine ⟨⟨⟨by omega,by omega⟩,by omega,by omega⟩,?_⟩
 have hmin:min 1 N=1:=by omega
 refine aV (fun n:Nat=>⟨[(8,.i n),(7,.sl 0 0 N)],[.arr 1 (yad n (encI x)++yad (N-n) (encI 0))],0⟩) (fun n=>1≤n∧n≤N) (fun n=>N-n) 1 (by omega) ?_ ?_
 ·simp -implicitDefEqProofs only [rX,↓reduceIte,Nat.reduceEqDiff,leE,leH,leB,aD,aB,wfE,wfB,wfV,hmin]
  have:yai N [encI x]=[encI x]:=yae (by simp;omega)
  rw [this,ybX]
  simp
  exact .inr rfl
 rintro n ⟨hn1,hn2⟩
 simp -implicitDefEqProofs only [rX,↓rY,↓reduceIte,Nat.reduceEqDiff,cU,dU,aQ,aU,leE,leH,leB,aD,aB,wfE,wfB,wfV,Nat.reduceLeDiff,yaa,cQ]
 intro hmx
 simp only [br,decide_eq_true_eq,decide_eq_false_iff_not]
 refine ⟨fun h=>?_,fun h=>?_⟩
 ·have h00:yax 0=0:=rfl
  have e1:yai n (yad n (encI x)++yad (N-n) (encI 0))=yad n (encI x):=by
   rw [yaE (by simp),yae (by simp)]
  simp only [h00,Nat.sub_zero,yaS,yay,e1,yaX]
  refine ⟨⟨⟨by omega,by omega⟩,by omega⟩,⟨⟨by omega,by omega⟩,by omega,by omega⟩,by omega,.inr trivial,⟨by simp only [lo];omega,by simp only [hi];omega⟩,n+min n (N-n),⟨⟨by omega,by omega⟩,by omega⟩,by omega,?_⟩
  have e2:yaJ (n+min n (N-n)) (yad n (encI x)++yad (N-n) (encI 0))=yad (N-(n+min n (N-n))) (encI 0):=by
   rw [List.drop_append,ybX,ybX,yaX,show n-(n+min n (N-n))=0 by omega,show N-n-(n+min n (N-n)-n)=N-(n+min n (N-n)) by omega]
   rfl
  rw [e2,List.take_replicate,Vv,show min (N-n) n=min n (N-n) by omega]
 ·have:N-n=0:=by omega
  have:n=N:=by omega
  subst this
  simp
end Go.Fx.P.K
namespace Go.Fx.P.K
open Go Go.Fx Go.Fx.E Go.Proofs
set_option maxRecDepth 20000
theorem Wn {α:Type} {a b c d f:α} {l:List α} {q:Nat}:(a::b::c::d::f::l)[q+5]?=l[q]?:=rfl
theorem acW {α:Type} {a b c d f x:α} {l:List α} {q:Nat}:(a::b::c::d::f::l).set (q+5) x=a::b::c::d::f::l.set q x:=rfl
def encR (l:List Nat):List (List V):=l.map Hr
theorem sT {l:List Nat}:(encR l).length=l.length:=by simp [encR]
def iA (N:Nat) (L:Nat→List Nat):List (List V):=(yan N).map fun (v:Nat)=>[.sl (v+5) 0 (L v).length]
def dG (N:Nat) (L:Nat→List Nat):List Blk:=(yan N).map fun (v:Nat)=>.arr 1 (encR (L v))
section
variable {N:Nat} {L:Nat→List Nat}
theorem lQ:(iA N L).length=N:=by simp [iA]
theorem fR:(dG N L).length=N:=by simp [dG]
theorem lR {v:Nat} (h:v<(iA N L).length):(iA N L)[v]=[.sl (v+5) 0 (L v).length]:=by simp [iA]
theorem r3 {v:Nat} {l:List Blk} (h:v<N):(dG N L++l)[v]?=some (.arr 1 (encR (L v))):=by
 rw [ybt (by rw [fR];exact h)]
 simp [dG,h]
theorem tM {q:Nat} {l:List Blk}:(dG N L++l)[N+q]?=l[q]?:=by
 rw [ybr (by rw [fR];omega),fR];congr 1;omega
theorem xY {l:List Blk}:(dG N L++l)[N]?=l[0]?:=tM (q:=0)
theorem tL {q:Nat} {l:List Blk} {x:Blk}:(dG N L++l).set (N+q) x=dG N L++l.set q x:=by
 rw [ybs _ _ (by rw [fR];omega),fR];congr 2;omega
theorem Jc {l:List Blk} {x:Blk}:(dG N L++l).set N x=dG N L++l.set 0 x:=tL (q:=0)
theorem Ch {v:Nat} {l:List Blk} {x:Blk} (h:v<N):(dG N L++l).set v x=(dG N L).set v x++l:=by
 rw [List.set_append_left _ _ (by rw [fR];exact h)]
theorem Jd {M:List Nat}:(dG N L).map (bE M)=dG N L:=by
 unfold dG
 rw [ybb]
 rfl
def app (L:Nat→List Nat) (v k:Nat):Nat→List Nat:=fun u=>if u=v then L u++[k] else L u
theorem pS {v:Nat} (k:Nat) (hv:v<N):((iA N L).map (bO [v+5])).set v [.sl (v+5) 0 ((L v).length+1)]=iA N (app L v k):=by
 apply yaD
 ·simp [iA]
 ·intro q h1 h2
  have hq:q<N:=by simpa [iA] using h2
  rw [ybE,lR]
  by_cases e:v=q
  ·subst e
   simp [app]
  ·rw [if_neg e,yac,lR]
   have:¬(q+5=v+5):=by omega
   simp [bO,kill,this,app,Ne.symm e]
theorem pT {v:Nat} (k:Nat) (hv:v<N):(dG N L).set v (.arr 1 (encR (L v)++[Hr k]))=dG N (app L v k):=by
 apply yaD
 ·simp [dG]
 ·intro q h1 h2
  have hq:q<N:=by simpa [dG] using h2
  rw [ybE]
  simp only [dG,yac,List.getElem_range]
  by_cases e:v=q
  ·subst e
   rw [if_pos rfl]
   simp [encR,app]
  ·rw [if_neg e];simp [app,Ne.symm e]
theorem Ci {Q:List Blk→Prop} (h0:Q []) (h1:∀ els r,Q r→Q (.arr 1 els::r)):Q (dG N L):=by
 have:∀ l:List Blk,(∀ b∈l,∃ els,b=.arr 1 els)→Q l:=by
  intro l
  induction l with
  | nil=>intro _;exact h0
  | cons b r ih =>
   intro h
   obtain ⟨els,rfl⟩:=h b yaO
   exact h1 _ _ (ih fun b hb=>h b (yaP _ hb))
 refine this _ fun b hb=>?_
 unfold dG at hb
 rw [yaH] at hb
 obtain ⟨v,_,rfl⟩:=hb
 exact ⟨_,rfl⟩
theorem xX {q:List Blk}:wfB q (dG N L):=Ci trivial fun _ _ h=>h
theorem tN {l:List Blk}:leH (dG N L++l) (dG N L):=Ci (Q:=fun m=>leH (m++l) m) (by unfold leH;trivial) fun _ _ h=>⟨rfl,h⟩
theorem xW {a b c d f:Blk}:wfL (a::b::c::d::f::dG N L) (iA N L).flatten:=by
 refine Dp fun x hx=>?_
 rw [List.mem_flatten] at hx
 obtain ⟨l,h1,h2⟩:=hx
 unfold iA at h1
 rw [yaH] at h1
 obtain ⟨v,hv,rfl⟩:=h1
 rw [ybk] at hv
 rw [List.mem_singleton] at h2
 subst h2
 simp only [wfV,aB,Wn]
 have:=r3 (L:=L) (l:=[]) hv
 rw [yao] at this
 rw [this]
 trivial
end
def Ae (N:Nat) (arcs:List Arc) (x:List Int) (L:Nat→List Nat):List Blk :=
 .arr 1 (x.map encI)::.var [.i N,.ro 4 (arcs.map Arc.enc)]::.arv 1 (iA N L)::.arr 1 (yad N (encI 0))::wB N x.length arcs 0 2 3::dG N L
def Gp (N:Nat) (arcs:List Arc) (x:List Int) (k:Nat):St :=
 ⟨[(21,.i k),(20,.i arcs.length),(19,.ro 4 (arcs.map Arc.enc)),(5,.ptr 4 0 0),(2,.ptr 1 0 0)],Ae N arcs x (fun v=>bT arcs v k),0⟩
theorem yS {arcs:List Arc} {v k:Nat}:(bT arcs v k).length≤k:=by
 have:=ycg (fun i=>decide ((gA arcs i).from_=v∨(gA arcs i).to=v)) (yan k)
 rwa [ybz] at this
theorem Od {arcs:List Arc} {k f t:Nat} (hf:(gA arcs k).from_=f) (ht:(gA arcs k).to=t) (hft:f≠t):(fun v=>bT arcs v (k+1))=app (app (fun v=>bT arcs v k) f k) t k:=by
 funext v
 have h1:bT arcs v (k+1)=bT arcs v k++(if (gA arcs k).from_=v∨(gA arcs k).to=v then [k] else []):=by
  unfold bT
  rw [ybh,List.filter_append]
  congr 1
  by_cases h:(gA arcs k).from_=v∨(gA arcs k).to=v
  ·rw [if_pos h];simp only [List.filter_cons,ybD,h,decide_true];rfl
  ·rw [if_neg h];simp only [List.filter_cons,ybD,h,decide_false];rfl
 rw [h1,hf,ht]
 unfold app
 by_cases e1:v=t
 ·subst e1
  rw [if_pos rfl,if_neg (Ne.symm hft)]
  simp
 ·rw [if_neg e1]
  by_cases e2:v=f
  ·subst e2;simp
  ·rw [if_neg e2]
   have:¬((f:Int)=v∨(t:Int)=v):=by omega
   rw [if_neg this];simp
theorem acD (N:Nat) (arcs:List Arc) (x:List Int) (hV:Val N arcs) {RR:St→Prop} {X:Nat→St→Prop}
  (hX:∀ e b,get e 5=.ptr 4 0 0→X 0 ⟨e,Ae N arcs x (fun v=>bT arcs v arcs.length),b⟩) (k:Nat) (hk:k≤arcs.length) :
  aw (cxN Tryz.prog [0]) c89l0 (fun s'=>∃ g':Nat,(g'≤arcs.length∧arcs.length-g'<arcs.length-k)∧leS [0] s' (Gp N arcs x g')) X RR (Gp N arcs x k):=by
 have hL:=hV.hl
 have hfl:=fun v=>yS (arcs:=arcs) (k:=k) (v:=v)
 have hnext:=fun f t=>Od (arcs:=arcs) (k:=k) (f:=f) (t:=t)
 unfold c89l0 Gp Ae wB
 simp -implicitDefEqProofs only [rX,↓rY,rdK,aA,cells?,splice,↓reduceIte,Nat.reduceEqDiff,cU,Nat.reduceAdd,reduceCtorEq,aC,cG,isD,Nat.reduceLT,yac,enc_len,fB,oP,fO,yaa,cxN,Wn,acW,fR,tM,xY,tL,Jc,lQ,yaF]
 simp only [br,decide_eq_true_eq,decide_eq_false_iff_not]
 refine ⟨fun h=>?_,fun h=>?_⟩
 ·have hk1:k<arcs.length:=by omega
  have hgk:gA arcs k=arcs[k]:=gA_at hk1
  have hva:=hV.at hk1
  rw [hgk] at hva hnext
  have hnx:=hnext arcs[k].from_.toNat arcs[k].to.toNat (by omega) (by omega) (by omega)
  have hf:arcs[k].from_.toNat<N:=by omega
  have ht:arcs[k].to.toNat<N:=by omega
  have if5:∀ (L:Nat→List Nat) (l:List Blk),(dG N L++l)[arcs[k].from_.toNat]?=some (.arr 1 (encR (L arcs[k].from_.toNat))):=fun L l=>r3 hf
  have it5:∀ (L:Nat→List Nat) (l:List Blk),(dG N L++l)[arcs[k].to.toNat]?=some (.arr 1 (encR (L arcs[k].to.toNat))):=fun L l=>r3 ht
  have tk:∀ l:List Nat,yai l.length (encR l)=encR l:=fun l=>yae (by rw [sT];omega)
  have ek:[V.v (Value.int IntKind.i64 (k:Int))]=Hr k:=rfl
  have ke:∀ M:List Nat,bO M arcs[k].enc=arcs[k].enc:=fun M=>rfl
  have n0:(N=arcs[k].from_.toNat)=False:=eq_false (by omega)
  have n1:(N+1=arcs[k].from_.toNat)=False:=eq_false (by omega)
  have n2:(N=arcs[k].to.toNat)=False:=eq_false (by omega)
  have n3:(N+1=arcs[k].to.toNat)=False:=eq_false (by omega)
  have n4:(arcs[k].from_.toNat=N)=False:=eq_false (by omega)
  have n5:(arcs[k].to.toNat=N)=False:=eq_false (by omega)
  have n6:(N+3=arcs[k].to.toNat)=False:=eq_false (by omega)
  have n7:(arcs[k].from_.toNat=arcs[k].to.toNat)=False:=eq_false (by omega)
  have n8:(arcs[k].to.toNat=arcs[k].from_.toNat)=False:=eq_false (by omega)
  have eN:(Hr k).length=1:=rfl
  have eD:(Hr k).all isD=true:=rfl
  have hap:∀ (L:Nat→List Nat),app L arcs[k].from_.toNat k arcs[k].to.toNat=L arcs[k].to.toNat:=fun L=>by simp [app,n8]
  have mk:∀ (L:Nat→List Nat) (M:List Nat),((iA N L).map (bO M)).length=N:=fun L M=>by rw [yam,lQ]
  refine ⟨⟨by omega,h⟩,by omega,by omega,by omega,?_⟩
  simp -implicitDefEqProofs only [rX,↓rY,rdK,aA,cells?,splice,↓reduceIte,Nat.reduceEqDiff,cU,Nat.reduceAdd,reduceCtorEq,aC,cG,leE,leH,leB,leV,bA,aD,aB,wfE,wfB,wfV,wfL,bN,bE,kill,bO,St.kill,isC,Nat.reduceLT,yac,oO,Wn,acW,fR,tM,xY,tL,lQ,lR,yaF,if5,it5,tk,ek,mk,sT,ke,n0,n1,n2,n3,n4,n5,n6,n7,eN,eD,hap,yap,Jd,Ch hf,Ch ht,fun L=>pS (L:=L) k hf,fun L=>pS (L:=L) k ht,fun L=>pT (L:=L) k hf,fun L=>pT (L:=L) k ht]
  have r1:=pS (L:=app (fun v=>bT arcs v k) arcs[k].from_.toNat k) k ht
  have r2:=pT (L:=app (fun v=>bT arcs v k) arcs[k].from_.toNat k) k ht
  rw [hap] at r1 r2
  have o1:=hfl arcs[k].from_.toNat
  have o2:=hfl arcs[k].to.toNat
  refine ⟨by omega,hva.1,by omega,hva.2.1,by omega,by omega,hva.2.1,by omega,by simp only [lo,hi];omega,k+1,⟨by omega,by omega⟩,by omega,?_⟩
  rw [r1,r2,←hnx]
  exact ⟨⟨rfl,tN⟩,xW,xX⟩
 ·have hke:k=arcs.length:=by omega
  subst hke
  exact hX _ _ rfl
theorem Yb (N:Nat) (arcs:List Arc) (x:List Int) (hV:Val N arcs):OkN Tryz.prog 89 [net N arcs,.sl 0 0 x.length] [.arr 1 (x.map encI)] [] (IsA (.ptr 4 0 0) (Ae N arcs x (fun v=>bT arcs v arcs.length))):=by
 refine eS pol [0] lw89 (by simp) ⟨trivial,trivial⟩ (by simp) ?_
 have hL:=hV.hl
 have hN:=hV.hn
 unfold c89 net
 simp -implicitDefEqProofs only [rX,↓rY,rdK,aA,cells?,splice,↓reduceIte,Nat.reduceEqDiff,Nat.reduceAdd,reduceCtorEq,aC,bU,Nat.reduceLeDiff,yaa,cxN,aL]
 have hrows:∀ v,bT arcs v 0=[]:=fun v=>rfl
 have e0:dG N (fun v=>bT arcs v 0)=yad N (.arr 1 []):=by
  apply yaD
  ·simp [dG]
  ·intro q h1 h2
   simp [dG,hrows,encR]
 have hnil:Ly (yad N [V.nil]) (iA N (fun v=>bT arcs v 0)):=by
  refine ⟨by simp [lQ],fun i a b h1 h2=>?_⟩
  have hi:i<N:=by
   have:=(List.getElem?_eq_some_iff.1 h1).1
   simpa using this
  have ha:a=[V.nil]:=by
   rw [List.getElem?_replicate,if_pos hi] at h1
   simpa using h1.symm
  have hb:b=[.sl (i+5) 0 0]:=by
   rw [yal (by rw [lQ];exact hi),lR] at h2
   simpa [hrows] using h2.symm
  subst ha hb
  refine ⟨rfl,fun j x y q1 q2=>?_⟩
  cases j with
  | zero =>
   simp only [yau,ybR] at q1 q2
   subst q1 q2
   exact .inr ⟨rfl,_,rfl⟩
  | succ j=>simp at q1
 have hfin:∀ e b,get e 5=.ptr 4 0 0→aw (cxN Tryz.prog [0]) ((LCode.reg 0 [{ dst:=some 63,op:=LOp.mov (Operand.tmp 5) },{ dst:=some 4,op:=LOp.mov (Operand.tmp 63) }]).seq LCode.ret)
   (eZ [0] 1 [iF.tmp 4] (IsA (V.ptr 4 0 0) (Ae N arcs x fun v=>bT arcs v arcs.length))) (fun x x_1=>False) (eZ [0] 1 [iF.tmp 4] (IsA (V.ptr 4 0 0) (Ae N arcs x fun v=>bT arcs v arcs.length))) ⟨e,Ae N arcs x fun v=>bT arcs v arcs.length,b⟩:=by
  intro e b he
  have hle:=tN (N:=N) (L:=fun v=>bT arcs v arcs.length) (l:=[])
  rw [yao] at hle
  unfold Ae wB
  simp -implicitDefEqProofs only [rX,↓reduceIte,aQ,aU,leH,leB,leV,bA,aD,aB,wfB,wfV,wfL,Nat.reduceLeDiff,cxN,he,cQ,eq_true hle,eq_true xX,eq_true xW]
 refine ⟨⟨⟨by omega,by omega,by omega⟩,⟨by omega,by omega,by omega⟩,fun hm=>?_⟩,⟨by omega,by omega,by omega⟩,⟨by omega,by omega,by omega⟩,fun hm=>?_⟩
 all_goals
  refine fU (.virt N 1 (by decide) (.nilW 2 1 _ (iA N fun v=>bT arcs v 0) rfl hnil (.refl _))) (Gp N arcs x) (fun k=>k≤arcs.length) (fun k=>arcs.length-k) 0 (yaq _) ?_ (acD N arcs x hV (fun e b he=>hfin e b he))
  unfold Gp Ae wB
  rw [e0]
  have hle:=tN (N:=N) (L:=fun v=>bT arcs v 0) (l:=[])
  rw [yao,e0] at hle
  have hwf:=fun q=>xX (N:=N) (L:=fun v=>bT arcs v 0) (q:=q)
  rw [e0] at hwf
  have hws:=fun a b c d f=>xW (N:=N) (L:=fun v=>bT arcs v 0) (a:=a) (b:=b) (c:=c) (d:=d) (f:=f)
  rw [e0] at hws
  simp -implicitDefEqProofs only [rX,↓reduceIte,Nat.reduceEqDiff,leE,leH,leB,leV,bA,aD,aB,wfE,wfB,wfV,wfL,yaj,eq_true hle,fun q=>eq_true (hwf q),fun a b c d f=>eq_true (hws a b c d f)]
  rfl
theorem Jb {N:Nat} {L:Nat→List Nat} {a b c d f:Blk}:(iA N L).map (gvL (fun k=>decide (5≤k)) (a::b::c::d::f::dG N L))=(yan N).map fun (v:Nat)=>[.ro 1 (encR (L v))]:=by
 apply yaD
 ·simp [iA]
 ·intro v h1 h2
  have hv:v<N:=by simpa using h2
  rw [yac,lR]
  have hb:blk (a::b::c::d::f::dG N L) (v+5)=.arr 1 (encR (L v)):=by
   unfold blk
   have:=r3 (L:=L) (l:=[]) hv
   rw [yao] at this
   rw [yag,Wn,this];rfl
  simp only [gvL,gvV,hb]
  have:yai (L v).length (encR (L v))=encR (L v):=yae (by rw [sT];omega)
  simp [sT,this]
theorem ajC (N:Nat) (arcs:List Arc) (x:List Int) (hV:Val N arcs):OkN Tryz.prog 89 [net N arcs,.sl 0 0 x.length] [.arr 1 (x.map encI)] [] (IsA (.ptr 4 0 0) [.arr 1 (x.map encI),.dead,.arv 1 (iJ arcs N),.arr 1 (yad N (encI 0)),wB N x.length arcs 0 2 3]):=by
 refine ⟨(Yb N arcs x hV).1,Pf [0] (by simp) (by simp) (Yb N arcs x hV).2 ?_⟩
 rintro r hs ⟨rfl,rfl⟩
 refine ⟨by simp [aD,aB,Ae],_,_,⟨rfl,rfl⟩,by simp,?_⟩
 refine ⟨_,.give (fun k=>decide (5≤k)) (by simp) (.refl _),?_⟩
 have hg:=fun a b c d f=>Jb (N:=N) (L:=fun v=>bT arcs v arcs.length) (a:=a) (b:=b) (c:=c) (d:=d) (f:=f)
 have hO:((yan N).map fun (v:Nat)=>[V.ro 1 (encR (bT arcs v arcs.length))])=iJ arcs N:=rfl
 unfold Ae wB
 simp only [St.give,gvH,gvB,gvE,gvV]
 simp -implicitDefEqProofs only [rX,↓reduceIte,Nat.reduceAdd,leE,leH,leB,leV,bA,aD,aB,wfE,wfB,wfV,wfL,Nat.reduceLeDiff,gvL,gvV,hg,hO,bW,Nat.reduceLeDiff,decide_false]
end Go.Fx.P.K
