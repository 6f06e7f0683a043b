import Derived.Test.YtokjdknjodhgiaaGreatDoorFxRX
import Derived.Test.YtokjdknjodhgiaaGreatDoorELow
import Derived.Sort.Walk0
import Derived.Lib.AppendZerosOnto
import Derived.Lib.SliceRun
import Derived.Lib.Walk
set_option linter.unusedVariables false
set_option linter.unusedSimpArgs false
set_option linter.unusedSectionVars false
open Int renaming toNat_natCast → yaa, natCast_zero → yaj, toNat → yax, natCast_nonneg → yaU, reduceToNat → yaZ, fdiv_eq_ediv_of_nonneg → yba, reduceLE → ybd, mul_zero → ybl, reduceLT → yby, toNat_of_nonneg → ybE
open Nat renaming le_refl → yab, zero_le → yaq, mul_one → yar, zero_add → yay, add_zero → ybf, min_eq_left → ybo, sub_self → ybM, le_trans → ybQ, shiftRight_eq_div_pow → ycb
open List renaming getElem_map → yac, replicate → yad, take_of_length_le → yae, getD_eq_getElem?_getD → yag, length_append → yah, take → yai, map → yak, getElem?_eq_getElem → yal, range → yam, append_nil → yan, length_map → yao, map_append → yap, length_take → yas, getElem_mem → yat, getElem?_cons_zero → yau, length_cons → yav, drop_of_length_le → yaz, set_cons_zero → yaA, length_nil → yaB, map_cons → yaC, ext_getElem → yaD, take_append_of_le_length → yaE, append_assoc → yaF, all_cons → yaG, mem_map → yaH, not_mem_nil → yaI, drop → yaJ, cons_append → yaL, map_take → yaN, mem_cons_self → yaO, mem_cons_of_mem → yaP, map_nil → yaQ, drop_zero → yaS, take_zero → yaV, mem_cons → yaW, length_replicate → yaX, all_nil → yaY, map_map → ybb, nil_append → ybe, drop_nil → ybg, range_succ → ybh, getElem_of_mem → ybi, take_succ_eq_append_getElem → ybj, mem_range → ybk, drop_append_of_le_length → ybp, length_drop → ybq, getElem?_append_right → ybr, set_append_right → ybs, getElem?_append_left → ybt, reverse_cons → ybv, reverse_nil → ybw, take_nil → ybx, flatten_append → ybA, range_zero → ybB, filter_nil → ybC, getElem_set → ybD, map_drop → ybG, map_set → ybH, getElem?_map → ybI, drop_left → ybK, mem_append → ybL, replicate_succ → ybN, getElem_take → ybO, length_range → ybP, mem_of_getElem? → ybW, drop_replicate → ybX, set_eq_take_append_cons_drop → ycc, take_length_add_append → ycd, take_append_drop → yce, take_append_getElem → ycf, length_filter_le → ycg, getElem?_eq_none → ych, getElem_cons_zero → yci
open BitVec renaming ofInt → yaf, ofNat → yaT, ofNat_toNat → ybm, setWidth_eq → ybn, toNat_ofInt → ybz, toNat_ofNat → ybF, ofInt_natCast → ybY, eq_of_toNat_eq → ybZ, toNat_ushiftRight → yca
open Option renaming getD_some → yaw, map_some → ybu, map_none → ybU, getD_none → ybV
open Bool renaming and_self → yaK, false_eq_true → yaM, and_true → yaR, and_eq_true → ybc, not_true → ybS, not_false → ybT
open Array renaming replicate → ybJ
open Option.some renaming injEq → ybR
namespace Go.Fx.E
open Go Go.Fx
abbrev W:=BitVec 32
abbrev w (x:W):V:=.v (.int .u32 (x.toNat:Int))
abbrev u8 (b:UInt8):V:=.v (.int .u8 (b.toNat:Int))
abbrev n64 (n:Nat):V:=.v (.int .u64 (n:Int))
theorem ofI (x:W):yaf 32 (x.toNat:Int)=x:=by
 rw [ybY,ybm,ybn]
theorem wrapN (n:Nat):IntKind.u32.wrap (n:Int)=((yaT 32 n).toNat:Int):=by
 rw [ybF]
 simp [IntKind.wrap,IntKind.bits,IntKind.signed]
theorem Nz (x:W):IntKind.u32.wrap (x.toNat:Int)=(x.toNat:Int):=by
 rw [wrapN,ybm,ybn]
section
variable {x y:W} {K:V→Prop}
theorem Ef:cM .add false .u32 (x.toNat:Int) (y.toNat:Int) K=K (w (x+y)):=by
 show K (.v (.int .u32 (IntKind.u32.wrap (x.toNat+y.toNat))))=_
 rw [←Int.natCast_add,wrapN,BitVec.ofNat_add,ybm,ybm,ybn,ybn]
theorem pV:cM .xor false .u32 (x.toNat:Int) (y.toNat:Int) K=K (w (x ^^^ y)):=by
 show K (.v (.int .u32 (IntKind.u32.wrap ((yaf 32 (x.toNat:Int) ^^^ yaf 32 (y.toNat:Int)).toNat:Int))))=_
 rw [ofI,ofI,Nz]
theorem Se:cM .and false .u32 (x.toNat:Int) (y.toNat:Int) K=K (w (x &&& y)):=by
 show K (.v (.int .u32 (IntKind.u32.wrap ((yaf 32 (x.toNat:Int) &&& yaf 32 (y.toNat:Int)).toNat:Int))))=_
 rw [ofI,ofI,Nz]
theorem Xa:cM .or false .u32 (x.toNat:Int) (y.toNat:Int) K=K (w (x ||| y)):=by
 show K (.v (.int .u32 (IntKind.u32.wrap ((yaf 32 (x.toNat:Int) ||| yaf 32 (y.toNat:Int)).toNat:Int))))=_
 rw [ofI,ofI,Nz]
theorem aaP:x ^^^ (4294967295#32) = ~~~x:=by
 rw [show (4294967295#32)=BitVec.allOnes 32 from rfl,BitVec.xor_allOnes]
theorem aaB:cM .xor false .u32 (if IntKind.signed .u32 then -1 else IntKind.max .u32) (x.toNat:Int) K=K (w (~~~x)):=by
 have h:(if IntKind.signed .u32 then -1 else IntKind.max .u32:Int)=((4294967295#32).toNat:Int):=rfl
 rw [h,pV,BitVec.xor_comm,aaP]
theorem Sd {n:Nat} (hn:n≤32):cQ .shl .u32 (x.toNat:Int) (n:Int) K=K (w (x <<< n)):=by
 have h:cQ .shl .u32 (x.toNat:Int) (n:Int) K=(0≤(n:Int)∧K (.v (.int .u32 (IntKind.u32.wrap (x.toNat*2 ^ (min (n:Int).toNat 32)))))):=rfl
 rw [h,yaa,ybo hn]
 have e:((x.toNat:Int)*2 ^ n)=((x.toNat*2 ^ n:Nat):Int):=by simp
 rw [e,wrapN]
 have e2:yaT 32 (x.toNat*2 ^ n)=x <<< n:=by
  apply ybZ
  rw [ybF,BitVec.toNat_shiftLeft,Nat.shiftLeft_eq]
 rw [e2]
 exact propext ⟨fun h=>h.2,fun h=>⟨yaU n,h⟩⟩
theorem Ee {n:Nat} (hn:n≤32):cQ .shr .u32 (x.toNat:Int) (n:Int) K=K (w (x >>> n)):=by
 have h:cQ .shr .u32 (x.toNat:Int) (n:Int) K=(0≤(n:Int)∧K (.v (.int .u32 (Int.fdiv (x.toNat:Int) (2 ^ (min (n:Int).toNat 32)))))):=rfl
 rw [h,yaa,ybo hn]
 have e:Int.fdiv (x.toNat:Int) (2 ^ n)=((x >>> n).toNat:Int):=by
  have h2:(2:Int) ^ n=((2 ^ n:Nat):Int):=by simp
  rw [yca,ycb,h2,yba _ (yaU _),Int.natCast_ediv]
 rw [e]
 exact propext ⟨fun h=>h.2,fun h=>⟨yaU n,h⟩⟩
end
def rr (x:W) (n:Nat):W:=(x >>> n) ||| (x <<< (32-n))
theorem abL:∀ n:Fin 32,n.val≠0→IntKind.u64.wrap (-(n.val:Int))=18446744073709551616-n.val:=by decide
theorem abK:∀ n:Fin 32,n.val≠0→(IntKind.u64.wrap ((yaf 64 (18446744073709551616-(n.val:Int)) &&& yaf 64 31).toNat:Int))=((32-n.val:Nat):Int):=by decide
structure S8 where
 a:W
 b:W
 c:W
 d:W
 e:W
 f:W
 g:W
 h:W
def S8.l (s:S8):List W:=[s.a,s.b,s.c,s.d,s.e,s.f,s.g,s.h]
def S8.enc (s:S8):List V:=[w s.a,w s.b,w s.c,w s.d,w s.e,w s.f,w s.g,w s.h]
def S8.add (s t:S8):S8:=⟨s.a+t.a,s.b+t.b,s.c+t.c,s.d+t.d,s.e+t.e,s.f+t.f,s.g+t.g,s.h+t.h⟩
def t1 (s:S8) (k x:W):W:=s.h+(rr s.e 6 ^^^ rr s.e 11 ^^^ rr s.e 25)+((s.e &&& s.f) ^^^ (~~~s.e &&& s.g))+k+x
def t2 (s:S8):W:=(rr s.a 2 ^^^ rr s.a 13 ^^^ rr s.a 22)+((s.a &&& s.b) ^^^ (s.a &&& s.c) ^^^ (s.b &&& s.c))
def S8.rnd (s:S8) (k x:W):S8:=⟨t1 s k x+t2 s,s.a,s.b,s.c,s.d+t1 s k x,s.e,s.f,s.g⟩
def kW (i:Nat):W:=yaT 32 (It.getD i 0)
def u5 (ws:Nat→W) (s:S8):Nat→S8
 | 0=>s
 | i+1=>(u5 ws s i).rnd (kW i) (ws i)
def B32 (b:UInt8):W:=b.toBitVec.setWidth 32
theorem aeR (b:UInt8):(B32 b).toNat=b.toNat:=by
 unfold B32
 rw [BitVec.toNat_setWidth]
 have:b.toBitVec.toNat=b.toNat:=rfl
 rw [this]
 have:=b.toNat_lt
 omega
theorem aaA {x:W} {b:UInt8} {K:V→Prop}:cM .or false .u32 (x.toNat:Int) (b.toNat:Int) K=K (w (x ||| B32 b)):=by
 rw [show (b.toNat:Int)=((B32 b).toNat:Int) by rw [aeR],Xa]
def word (b0 b1 b2 b3:UInt8):W:=(B32 b0 <<< 24) ||| (B32 b1 <<< 16) ||| (B32 b2 <<< 8) ||| B32 b3
theorem Th (b0 b1 b2 b3:UInt8):(((((0#32 <<< 8 ||| B32 b0) <<< 8) ||| B32 b1) <<< 8 ||| B32 b2) <<< 8 ||| B32 b3)=word b0 b1 b2 b3:=by
 unfold word
 have h:(0#32 <<< 8 ||| B32 b0)=B32 b0:=by simp
 rw [h]
 simp only [BitVec.shiftLeft_or_distrib,←BitVec.shiftLeft_add]
def wn (l:List W) (i:Nat):W:=l.getD i 0
def next (ws:List W):W :=
 let i:=ws.length
 let x:=wn ws (i-15)
 let y:=wn ws (i-2)
 wn ws (i-16)+(rr x 7 ^^^ rr x 18 ^^^ (x >>> 3))+wn ws (i-7)+(rr y 17 ^^^ rr y 19 ^^^ (y >>> 10))
def bn (bs:List UInt8) (i:Nat):UInt8:=bs.getD i 0
def sQ (bs:List UInt8) (i:Nat):W:=word (bn bs (4*i)) (bn bs (4*i+1)) (bn bs (4*i+2)) (bn bs (4*i+3))
def wds (bs:List UInt8):Nat→List W
 | 0=>[]
 | i+1=>wds bs i++[if i<16 then sQ bs i else next (wds bs i)]
theorem gM (bs:List UInt8):∀ i,(wds bs i).length=i
 | 0=>rfl
 | i+1=>by simp [wds,gM bs i]
def iB (bs:List UInt8) (i:Nat):List W:=wds bs i++yad (64-i) 0
def comp (s:S8) (bs:List UInt8):S8:=s.add (u5 (fun i=>wn (wds bs 64) i) s 64)
def iv:S8:=⟨1779033703,3144134277,1013904242,2773480762,1359893119,2600822924,528734635,1541459225⟩
def ws (l:List W):List V:=l.map w
theorem Ci {l:List W}:(ws l).length=l.length:=by simp [ws]
theorem aaR {l:List W}:(ws l).all isC=true:=by simp [ws,isC,isD]
theorem iH {l:List W} {q:List Blk}:wfL q (ws l):=by
 unfold ws
 induction l with
 | nil=>trivial
 | cons x r ih=>exact ⟨trivial,ih⟩
theorem Tf {l:List W} {n:Nat}:(ws l).take n=ws (l.take n):=by simp [ws,yaN]
theorem Tg {l:List W} {n:Nat}:(ws l).drop n=ws (l.drop n):=by simp [ws,ybG]
theorem Xl {l:List W} {f:Nat→Option Nat}:cJ f (ws l)=ws l:=by
 unfold ws
 induction l with
 | nil=>rfl
 | cons x r ih=>exact congrArg (w x::·) ih
theorem Xk {l:List W} {i:Nat} {x:W} (hi:i<l.length):(ws l).take i++w x::(ws l).drop (i+1)=ws (l.set i x):=by
 unfold ws
 rw [ybH,ycc,if_pos (by simpa using hi)]
theorem Nx {l:List W} {i:Nat} {x:W} (hi:i<l.length):(ws l).take i++[w x]++(ws l).drop (i+1)=ws (l.set i x):=by
 rw [←Xk hi]
 simp
theorem Bt {l:List W} {i:Nat} (hi:i<l.length):(ws l)[i]?=some (w (wn l i)):=by
 unfold ws wn
 rw [ybI,yal hi,yag,yal hi]
 rfl
def z64:List W:=yad 64 0
theorem vF:z64.length=64:=rfl
theorem w0:yak V.v (ybJ 64 (Value.int IntKind.u32 0)).toList=ws z64:=rfl
theorem aaS {l:List W} (h:l.length=64):(ws l).take 64=ws l:=by rw [Tf,yae (by omega)]
theorem Vx {l:List W} (h:l.length=64):(ws l).drop 64=[]:=by rw [Tg,yaz (by omega)];rfl
attribute [irreducible] ws z64
def by1 (b:UInt8):List V:=[u8 b]
theorem aeE {b:UInt8}:(by1 b)[0]?=some (u8 b):=rfl
end Go.Fx.E
namespace Go.Fx.E
open Go Go.Fx
abbrev Bs:=List UInt8
def nC (s:S8) (m:Bs):Nat→S8
 | 0=>s
 | k+1=>comp (nC s m k) ((m.drop (64*k)).take 64)
theorem pW {s:S8} {m c:Bs}:∀ {k:Nat},64*k≤m.length→nC s (m++c) k=nC s m k
 | 0,_=>rfl
 | k+1,h=>by
  rw [nC,nC,pW (by omega),ybp (by omega),yaE (by simp;omega)]
structure Stm where
 st:S8
 blk:Bs
 n:Nat
structure Rp (S:Stm) (m:Bs):Prop where
 n:S.n=m.length
 len:S.blk.length=64
 st:S.st=nC iv m (m.length/64)
 blk:S.blk.take (m.length%64)=m.drop (64*(m.length/64))
def lN (blk c:Bs) (j:Nat):Bs:=blk.take j++c++blk.drop (j+c.length)
theorem Fg {blk c:Bs} {j:Nat} (h:j+c.length≤blk.length):(lN blk c j).length=blk.length:=by
 unfold lN;simp;omega
theorem Rp.step {S:Stm} {m c:Bs} (h:Rp S m) (hc:S.n%64+c.length≤64) :
  Rp ⟨if S.n%64+c.length=64 then comp S.st (lN S.blk c (S.n%64)) else S.st,lN S.blk c (S.n%64),S.n+c.length⟩ (m++c):=by
 have hn:=h.n
 have hl:=h.len
 have hb:=h.blk
 have hdl:(m.drop (64*(m.length/64))).length=m.length%64:=by rw [ybq];omega
 rw [hn] at hc ⊢
 have hpl:(lN S.blk c (m.length%64)).length=64:=by rw [Fg (by omega),hl]
 have htk:(lN S.blk c (m.length%64)).take (m.length%64+c.length)=m.drop (64*(m.length/64))++c:=by
  unfold lN
  rw [hb,yaE (by rw [yah,hdl];exact yab _),yae (by rw [yah,hdl];exact yab _)]
 by_cases h64:m.length%64+c.length=64
 ·have e1:(m++c).length/64=m.length/64+1:=by rw [yah];omega
  have e2:(m++c).length%64=0:=by rw [yah];omega
  refine ⟨by simp,hpl,?_,?_⟩
  ·simp only [if_pos h64]
   rw [e1,nC,pW (by omega),h.st]
   congr 1
   rw [ybp (by omega),←htk,h64,List.take_take,Nat.min_self,yae (by omega)]
  ·rw [e2,e1]
   simp only [yaV]
   rw [yaz (by rw [yah];omega)]
 ·have e1:(m++c).length/64=m.length/64:=by rw [yah];omega
  have e2:(m++c).length%64=m.length%64+c.length:=by rw [yah];omega
  refine ⟨by simp,hpl,?_,?_⟩
  ·simp only [if_neg h64]
   rw [e1,pW (by omega),h.st]
  ·rw [e1,e2]
   show (lN S.blk c (m.length%64)).take _=_
   rw [htk,ybp (by omega)]
def len8 (n:Nat):Bs:=(yam 8).map fun i=>UInt8.ofNat (8*n/2 ^ (56-8*i))
def zeros (n:Nat):Nat:=(119-n%64)%64
def pad (n:Nat):Bs:=128::(yad (zeros n) 0++len8 n)
theorem Nt (n:Nat):(n+1+zeros n)%64=56:=by unfold zeros;omega
def abA (m:Bs):S8:=nC iv (m++pad m.length) ((m++pad m.length).length/64)
def Cz (s:S8) (i:Nat):UInt8:=UInt8.ofNat ((wn s.l (i/4)).toNat/2 ^ (24-8*(i%4)))
def sha (m:Bs):Bs:=(yam 32).map (Cz (abA m))
def sC (st:S8) (blk:Bs) (n:Nat):List V:=st.enc++(blk.map u8++[n64 n])
section
variable {s:S8} {b:Bs} {n:Nat}
theorem eK (h:b.length=64):(sC s b n).length=73:=by simp [sC,S8.enc,h]
theorem sT (h:b.length=64):(b.map u8).length=64:=by simpa using h
theorem Tx (h:b.length=64):(sC s b n)[72]?=some (n64 n):=by
 unfold sC
 rw [ybr (by simp [S8.enc]),ybr (by simp [S8.enc,h])]
 simp [S8.enc,h]
theorem abC:(sC s b n).take 8=s.enc:=by
 unfold sC
 rw [yaE (by simp [S8.enc]),yae (by simp [S8.enc])]
theorem Xz {m:Nat} (h:b.length=64):(sC s b n).take 72++[n64 m]++(sC s b n).drop 73=sC s b m:=by
 rw [yaz (by rw [eK h];exact yab _),yan]
 unfold sC
 rw [show (72:Nat)=s.enc.length+64 from rfl,ycd,yaE (by rw [sT h];exact yab _),yae (by rw [sT h];exact yab _),yaF]
theorem Xy {t:S8}:t.enc++(sC s b n).drop 8=sC t b n:=by
 unfold sC
 rw [show (8:Nat)=s.enc.length from rfl,ybK]
theorem Ty {c:Bs} {j:Nat} (h:b.length=64) (hj:j+c.length≤64):(sC s b n).take (8+j)++c.map u8++(sC s b n).drop (8+j+c.length)=sC s (lN b c j) n:=by
 unfold sC lN
 have e8:(8:Nat)=s.enc.length:=rfl
 rw [show 8+j=s.enc.length+j from rfl,ycd,Nat.add_assoc,List.drop_length_add_append]
 rw [yaE (by simp;omega),ybp (by simp;omega)]
 simp [yaN,ybG,yaF]
theorem Tw (h:b.length=64):(((sC s b n).drop 8).take 64).map (fun c=>[c])=b.map by1:=by
 unfold sC
 rw [show (8:Nat)=s.enc.length from rfl,ybK,yaE (by rw [sT h];exact yab _),yae (by rw [sT h];exact yab _),ybb]
 rfl
theorem Oy (h:b.length=64):(((sC s b n).drop 8).take 64).all isD=true:=by
 unfold sC
 rw [show (8:Nat)=s.enc.length from rfl,ybK,yaE (by rw [sT h];exact yab _),yae (by rw [sT h];exact yab _)]
 simp [isD]
theorem Tz:(sC s b n).all isC=true:=by simp [sC,S8.enc,isC,isD]
theorem i5 {q:List Blk}:wfL q (sC s b n):=by
 have:∀ l:List V,l.all isD=true→wfL q l:=by
  intro l
  induction l with
  | nil=>intro _;trivial
  | cons x r ih =>
   intro h
   simp only [yaG,ybc] at h
   refine ⟨?_,ih h.2⟩
   cases x<;>simp [isD] at h<;>trivial
 exact this _ (by simp [sC,S8.enc,isD])
theorem j3 (h:b.length=64):(sC s b n).take 73=sC s b n:=yae (by rw [eK h];exact yab _)
theorem xA (h:b.length=64):(sC s b n).drop 73=[]:=yaz (by rw [eK h];exact yab _)
theorem vI {f:Nat→Option Nat}:cJ f (sC s b n)=sC s b n:=by
 have:∀ l:List V,l.all isD=true→(∀ x∈l,∃ u,x=.v u)→cJ f l=l:=by
  intro l
  induction l with
  | nil=>intro _ _;rfl
  | cons x r ih =>
   intro h hx
   obtain ⟨u,rfl⟩:=hx x yaO
   simp only [yaG,ybc] at h
   show V.v u::cJ f r=_
   rw [ih h.2 fun y hy=>hx y (yaP _ hy)]
 refine this _ (by simp [sC,S8.enc,isD]) ?_
 intro x hx
 simp only [sC,S8.enc,ybL,yaH,yaW,yaI,or_false] at hx
 rcases hx with (rfl|rfl|rfl|rfl|rfl|rfl|rfl|rfl)|⟨u,_,rfl⟩|rfl<;>exact ⟨_,rfl⟩
end
attribute [irreducible] sC
open Go Go.Fx Go.Proofs
abbrev Ok (f:FuncId) (xs:List V) (R:V→List Blk→Prop):Prop:=OkN Tryz.prog f xs [] [] R
theorem ok_of {f:FuncId} {l0 l:LCode} {rs:List hU} {nt:Nat} (hl:rlF Tryz.prog f l0=some (l,rs,nt)) {args:List V} {R:V→List Blk→Prop} (hlen:args.length≤nt)
  (h:aw (cxN Tryz.prog []) l (eS [] 0 rs R) (fun _ _=>False) (eS [] 0 rs R) ⟨aK 0 args,[],0⟩):Ok f args R :=
 eL pol [] hl hlen trivial (fun k hk=>by simp at hk) h
theorem ajP {a c:Int} {K:V→Prop} {x:Bool}:cM .and x .u64 a c K=K (.v (.int .u64 (IntKind.u64.wrap ((yaf 64 a &&& yaf 64 c).toNat:Int)))):=rfl
theorem afT:Es 0 64=some u6:=by kernel_rfl
def sb (l:Bs):ByteArray:=⟨l.toArray⟩
abbrev sv (l:Bs):V:=.v (.string (sb l))
theorem mQ {l:Bs}:(sb l).size=l.length:=rfl
theorem Kf {l:Bs}:(sb l).toList=l:=(ByteArray.toList_eq _).trans rfl
theorem adG:Value.string ⟨#[]⟩=.string (sb []):=rfl
theorem Hu {l:Bs} {a b:Nat}:(sb l).extract a b=sb ((l.take b).drop a):=by
 apply ByteArray.ext
 show ((sb l).extract a b).data=_
 rw [ByteArray.data_extract]
 apply Array.ext'
 simp [sb,Array.toList_extract,List.extract,List.drop_take]
theorem aY {P:Program} {fx:List Nat}:(cxN P fx).bn=[]:=rfl
theorem aQ {P:Program} {fx:List Nat}:(cxN P fx).fx=fx:=rfl
theorem Wt {h:List Blk}:aD [] h=True:=rfl
theorem sG {cx:Cx} {f:FuncId} {args:List V} {e:Env} {h:List Blk} {b:Nat} {K:V→St→Prop} {G:Type} (Q:G→Prop) (xs:List V) (x:G→V) (hC:cx.C f xs [] [] (IsQ Q x (fun _=>[])))
  (h1:aF h (fun _=>none) args∧wkL xs (aW h (fun _=>none) args)) (hx:∀ g,ren (fun j=>some (h.length+j)) (x g)=x g) (keep:aD cx.fx h) (h3:∀ g,Q g→K (x g) ⟨e,h,b⟩):j8 cx f args ⟨e,h,b⟩ K:=by
 refine pU xs _ h1 hC ?_
 rintro r h' ⟨g,hg,rfl,rfl⟩
 simp only [yaQ,yan]
 exact ⟨keep,by rw [hx];exact h3 g hg⟩
theorem dB {fx:List Nat} {f:(St→Prop)→St→Prop} {s:St} {G:Type} (pat:G→St) (I:G→Prop) (μ:G→Nat) (g:G) (h0:I g) (h1:leS fx s (pat g))
  (h:∀ g,I g→∀ N:St→Prop,(∀ s' g',I g'→μ g'<μ g→leS fx s' (pat g')→N s')→f N (pat g)):yE fx f s :=
 aU pat I μ g h0 h1 fun g hg=>h g hg _ fun s' g' a b c=>⟨g',⟨a,b⟩,c⟩
theorem abJ:∀ n:Fin 32,n.val≠0→IntKind.u64.wrap (32-((32-n.val:Nat):Int))=(n.val:Int):=by decide
theorem xY (x:W) (n:Nat) (h:1≤n∧n≤31):Ok 156 [w x,.i (-(n:Int))] (Is (w (rr x n))):=by
 have ra:=abL ⟨n,by omega⟩ (by simp;omega)
 have rb:=abK ⟨n,by omega⟩ (by simp;omega)
 have rc:=abJ ⟨n,by omega⟩ (by simp;omega)
 simp only at ra rb rc
 refine ok_of lw156 (by simp) ?_
 unfold c156
 have s1:∀ {K:V→Prop},cQ .shl .u32 (x.toNat:Int) ((32-n:Nat):Int) K=K (w (x <<< (32-n))):=Sd (by omega)
 have s2:∀ {K:V→Prop},cQ .shr .u32 (x.toNat:Int) (n:Int) K=K (w (x >>> n)):=Ee (by omega)
 simp -implicitDefEqProofs only [rX,↓rY,aA,↓reduceIte,Nat.reduceEqDiff,reduceCtorEq,aT,aV,wfV,aK,↓ajP,ra,rb,rc,↓s1,↓s2,↓Xa]
 unfold rr
 rw [BitVec.or_comm]
theorem Dd {a:Nat} (h:a≤31):IntKind.i64.wrap (-(a:Int))=-(a:Int):=by
 have:=(show ∀ n:Fin 32,IntKind.i64.wrap (-(n.val:Int))=-(n.val:Int) by decide) ⟨a,by omega⟩
 simpa using this
theorem Wh (x:W) (a b c:Nat) (ha:1≤a∧a≤31) (hb:1≤b∧b≤31) (hc:1≤c∧c≤31):Ok 149 [w x,.i a,.i b,.i c] (Is (w (rr x a ^^^ rr x b ^^^ rr x c))):=by
 refine ok_of lw149 (by simp) ?_
 unfold c149
 simp -implicitDefEqProofs only [rX,aA,↓reduceIte,Nat.reduceEqDiff,Nat.reduceAdd,reduceCtorEq,aK,Dd ha.2,Dd hb.2,Dd hc.2]
 refine aE (xY x a ha) (by simp [aF,aJ,aW,bP,wkL,wk,wkR]) rfl trivial ?_
 simp -implicitDefEqProofs only [rX,↓reduceIte,Nat.reduceEqDiff,reduceCtorEq,Dd hb.2,Dd hc.2]
 refine aE (xY x b hb) (by simp [aF,aJ,aW,bP,wkL,wk,wkR]) rfl trivial ?_
 simp -implicitDefEqProofs only [rX,↓reduceIte,Nat.reduceEqDiff,reduceCtorEq,Dd hb.2,Dd hc.2,↓pV]
 refine aE (xY x c hc) (by simp [aF,aJ,aW,bP,wkL,wk,wkR]) rfl trivial ?_
 simp -implicitDefEqProofs only [rX,↓reduceIte,Nat.reduceEqDiff,aT,aV,wfV,Dd hb.2,Dd hc.2,↓pV]
set_option maxRecDepth 20000
theorem v8 (bs:List UInt8) {i:Nat} (hi:i≤64):(iB bs i).length=64:=by
 unfold iB
 rw [yah,gM,yaX]
 omega
theorem Xq (bs:List UInt8):iB bs 0=z64:=by unfold iB z64;rfl
theorem Tp (bs:List UInt8):iB bs 64=wds bs 64:=by simp [iB]
theorem Oj (bs:List UInt8) {i:Nat} (hi:i<64) (x:W) (hx:x=if i<16 then sQ bs i else next (wds bs i)):(iB bs i).set i x=iB bs (i+1):=by
 unfold iB
 rw [ybs _ _ (by rw [gM];exact yab _),gM,ybM,show 64-i=(64-(i+1))+1 by omega,ybN,yaA]
 subst hx
 simp [wds]
theorem rD (bs:List UInt8) {i j:Nat} (hi:i≤64) (hj:j<i):wn (iB bs i) j=wn (wds bs i) j:=by
 unfold iB wn
 rw [yag,yag,ybt (by rw [gM];exact hj)]
def part (bs:List UInt8) (i:Nat):Nat→W
 | 0=>0
 | j+1=>part bs i j <<< 8 ||| B32 (bn bs (4*i+j))
theorem Yg (bs:List UInt8) (i:Nat):part bs i 4=sQ bs i:=by
 unfold sQ
 rw [←Th]
 rfl
def mJ (bs:List UInt8) (i j:Nat):List W:=(iB bs i).set i (part bs i j)
theorem Xr (bs:List UInt8) {i:Nat} (hi:i<64):mJ bs i 0=iB bs i:=by
 unfold mJ iB
 rw [ybs _ _ (by rw [gM];exact yab _),gM,ybM,show 64-i=(64-(i+1))+1 by omega,ybN,yaA]
 rfl
theorem Om (bs:List UInt8) {i j:Nat} (hi:i≤64):(mJ bs i j).length=64:=by
 unfold mJ
 rw [List.length_set,v8 bs hi]
theorem On (bs:List UInt8) {i j:Nat} (hi:i<64):wn (mJ bs i j) i=part bs i j:=by
 unfold mJ wn
 rw [yag,List.getElem?_set_self (by rw [v8 bs (by omega)];exact hi)]
 rfl
theorem Ol (bs:List UInt8) {i j:Nat} (x:W) (hx:x=part bs i (j+1)):(mJ bs i j).set i x=mJ bs i (j+1):=by
 unfold mJ
 rw [List.set_set,hx]
abbrev byV (bs:List UInt8):V:=.bro 1 (bs.map by1)
set_option maxHeartbeats 1000000 in
theorem acG (bs:List UInt8) (hb:bs.length=64):Ok 148 [byV bs] (Is (.agg (ws (wds bs 64)))):=by
 refine ok_of lw148 (by simp) ?_
 unfold c148
 simp -implicitDefEqProofs only [rX,↓rY,aA,cells?,Nat.reduceAdd,aC,aQ,aK,w0]
 have lW:(wds bs 64).length=64:=gM bs 64
 refine dB (fun i:Nat=>(⟨[(11,.i i),(3,.ptr 1 0 0),(2,.ptr 0 0 0),(0,byV bs)],[.var (ws z64),.var (ws (iB bs i))],2⟩:St)) (fun i=>i≤64) (fun i=>64-i) 0 (yaq _) ?_ ?_
 ·rw [Xq]
  exact ⟨by simp -implicitDefEqProofs only [rX,↓reduceIte,Nat.reduceEqDiff,reduceCtorEq,leE];rfl,bT _,trivial,by simp -implicitDefEqProofs only [rX,aB,wfE,wfV],⟨iH,iH,trivial⟩⟩
 intro i hi N hN
 simp only [c148l0]
 simp -implicitDefEqProofs only [rX,↓rY,aA,cells?,splice,↓reduceIte,Nat.reduceEqDiff,Nat.reduceAdd,reduceCtorEq,dN,aT,aV,wfV,aY,aQ,yar]
 cases h1:decide ((i:Int)<64) with
 | false =>
  have h1':=of_decide_eq_false h1
  have:i=64:=by omega
  subst this
  simp -implicitDefEqProofs only [rX,↓rY,Tp,Ci,aaS lW,lW,vF,Vx vF,aaR,iH]
 | true =>
  have h1':=of_decide_eq_true h1
  have hi64:i<64:=by omega
  have lT:(iB bs i).length=64:=v8 bs hi
  have fin:∀ (x:W) (e:Env),x=(if i<16 then sQ bs i else next (wds bs i))→get e 3=.ptr 1 0 0→get e 2=.ptr 0 0 0→get e 0=byV bs →
    N (⟨(11,.i ((i:Int)+1))::e,[.var (ws z64),.var (ws ((iB bs i).set i x))],2⟩:St):=by
   intro x e hx e3 e2 e0
   refine hN _ (i+1) (by omega) (by omega) ?_
   rw [Oj bs hi64 x hx]
   exact ⟨by simp -implicitDefEqProofs only [rX,↓reduceIte,Nat.reduceEqDiff,reduceCtorEq,leE,e3,e2,e0];simp,bT _,trivial,by simp -implicitDefEqProofs only [rX,aB,wfE,wfV],⟨iH,iH,trivial⟩⟩
  have sp:∀ x:W,yai i (ws (iB bs i))++[w x]++yaJ (i+1) (ws (iB bs i))=ws ((iB bs i).set i x):=fun x=>Nx (by omega)
  simp -implicitDefEqProofs only [↓rY]
  cases h2:decide ((i:Int)<16) with
  | true =>
   have h2':=of_decide_eq_true h2
   have h4:yai ((4*(i:Int)+4).toNat-(4*(i:Int)).toNat) (yaJ (4*(i:Int)).toNat (yak by1 bs))=((bs.drop (4*i)).take 4).map by1:=by
    rw [show (4*(i:Int)+4).toNat-(4*(i:Int)).toNat=4 by omega,show (4*(i:Int)).toNat=4*i by omega,yaN,ybG]
   have l4:((bs.drop (4*i)).take 4).length=4:=by simp;omega
   have a1:(lo IntKind.i64≤4*(i:Int)∧4*(i:Int)≤Fx.hi IntKind.i64):=by simp only [lo,Fx.hi];omega
   have a2:(lo IntKind.i64≤4*(i:Int)+4∧4*(i:Int)+4≤Fx.hi IntKind.i64):=by simp only [lo,Fx.hi];omega
   have a3:((0≤4*(i:Int)∧4*(i:Int)≤4*(i:Int)+4)∧4*(i:Int)+4≤(bs.length:Int)∧(bs.length:Int)≤(bs.length:Int)):=by omega
   simp -implicitDefEqProofs only [rX,↓rY,h4,l4,eq_true a1,eq_true a2,eq_true a3]
   intro _
   refine dB (fun j:Nat=>(⟨[(24,.i j),(23,.i 4),(22,.bro 1 (((bs.drop (4*i)).take 4).map by1)),(4,.i i),(11,.i i),(3,.ptr 1 0 0),(2,.ptr 0 0 0),(0,byV bs)],[.var (ws z64),.var (ws (mJ bs i j))],2⟩:St)) (fun j=>j≤4) (fun j=>4-j) 0 (yaq _) ?_ ?_
   ·rw [Xr bs hi64]
    exact ⟨by simp -implicitDefEqProofs only [rX,↓reduceIte,Nat.reduceEqDiff,reduceCtorEq,leE];exact ⟨rfl,rfl⟩,bT _,trivial,by simp -implicitDefEqProofs only [rX,aB,wfE,wfV],⟨iH,iH,trivial⟩⟩
   intro j hj M hM
   have lP:(mJ bs i j).length=64:=Om bs hi
   simp only [c148l1]
   simp -implicitDefEqProofs only [rX,↓rY,aA,cells?,splice,↓reduceIte,Nat.reduceEqDiff,Nat.reduceAdd,yac,yaa,aY,aeE,yar]
   cases h3:decide ((j:Int)<4) with
   | false =>
    have h3':=of_decide_eq_false h3
    have:j=4:=by omega
    subst this
    have hq:mJ bs i 4=(iB bs i).set i (sQ bs i):=by unfold mJ;rw [Yg]
    simp -implicitDefEqProofs only [↓rY,hq]
    exact ⟨by simp only [lo,Fx.hi];omega,fin _ _ (by rw [if_pos (by omega)]) rfl rfl rfl⟩
   | true =>
    have h3':=of_decide_eq_true h3
    have hj4:j<4:=by omega
    have hg:((bs.drop (4*i)).take 4)[j]'(by omega)=bn bs (4*i+j):=by
     unfold bn
     rw [ybO,List.getElem_drop,yag,yal (by omega)]
     rfl
    have s8:∀ {x:W} {K:V→Prop},cQ .shl .u32 (x.toNat:Int) 8 K=K (w (x <<< 8)):=fun {x K}=>Sd (n:=8) (by omega)
    have gi:(ws (mJ bs i j))[i]?=some (w (part bs i j)):=by rw [Bt (by omega),On bs hi64]
    have spP:∀ x:W,yai i (ws (mJ bs i j))++[w x]++yaJ (i+1) (ws (mJ bs i j))=ws ((mJ bs i j).set i x):=fun x=>Nx (by omega)
    simp -implicitDefEqProofs only [rX,↓rY,isC,Nat.reduceLeDiff,gi,↓s8,l4,hg,↓aaA,spP,Ci,lP]
    refine ⟨by omega,⟨by omega,by omega,?_,by omega,by omega,by simp only [lo,Fx.hi];omega,?_⟩⟩
    ·have:=(bn bs (4*i+j)).toNat_lt
     simp only [lo,Fx.hi];omega
    refine hM _ (j+1) (by omega) (by omega) ?_
    rw [show (mJ bs i j).set i (part bs i j <<< 8 ||| B32 (bn bs (4*i+j)))=mJ bs i (j+1) from Ol bs _ rfl]
    exact ⟨by simp -implicitDefEqProofs only [rX,↓reduceIte,Nat.reduceEqDiff,reduceCtorEq,leE];simp,bT _,trivial,by simp -implicitDefEqProofs only [rX,aB,wfE,wfV],⟨iH,iH,trivial⟩⟩
  | false =>
   have h2':=of_decide_eq_false h2
   have g15:(ws (iB bs i))[((i:Int)-15).toNat]?=some (w (wn (wds bs i) (i-15))):=by
    rw [show ((i:Int)-15).toNat=i-15 by omega,Bt (by omega),rD bs hi (by omega)]
   have g2:(ws (iB bs i))[((i:Int)-2).toNat]?=some (w (wn (wds bs i) (i-2))):=by
    rw [show ((i:Int)-2).toNat=i-2 by omega,Bt (by omega),rD bs hi (by omega)]
   have g16:(ws (iB bs i))[((i:Int)-16).toNat]?=some (w (wn (wds bs i) (i-16))):=by
    rw [show ((i:Int)-16).toNat=i-16 by omega,Bt (by omega),rD bs hi (by omega)]
   have g7:(ws (iB bs i))[((i:Int)-7).toNat]?=some (w (wn (wds bs i) (i-7))):=by
    rw [show ((i:Int)-7).toNat=i-7 by omega,Bt (by omega),rD bs hi (by omega)]
   have s3:∀ {x:W} {K:V→Prop},cQ .shr .u32 (x.toNat:Int) 3 K=K (w (x >>> 3)):=fun {x K}=>Ee (n:=3) (by omega)
   have s10:∀ {x:W} {K:V→Prop},cQ .shr .u32 (x.toNat:Int) 10 K=K (w (x >>> 10)):=fun {x K}=>Ee (n:=10) (by omega)
   simp -implicitDefEqProofs only [↓rY,g15,g2]
   refine ⟨by simp only [lo,Fx.hi];omega,by omega,by simp only [lo,Fx.hi];omega,by omega,?_⟩
   refine aE (xY (wn (wds bs i) (i-15)) 7 (by omega)) (by simp [aF,aJ,aW,bP,wkL,wk,wkR]) rfl trivial ?_
   simp -implicitDefEqProofs only [rX,aA,↓reduceIte,Nat.reduceEqDiff]
   refine aE (xY (wn (wds bs i) (i-15)) 18 (by omega)) (by simp [aF,aJ,aW,bP,wkL,wk,wkR]) rfl trivial ?_
   simp -implicitDefEqProofs only [qY,zc,zi,zj,zm,zv,zJ,kM,kQ,kS,kT,kX,aA,yaB,yav,↓reduceIte,Nat.reduceEqDiff,kZ,yan,yay,Nat.reduceAdd,yaC,yaQ,true_and,qar,↓pV,↓s3]
   refine aE (xY (wn (wds bs i) (i-2)) 17 (by omega)) (by simp [aF,aJ,aW,bP,wkL,wk,wkR]) rfl trivial ?_
   simp -implicitDefEqProofs only [rX,aA,↓reduceIte,Nat.reduceEqDiff]
   refine aE (xY (wn (wds bs i) (i-2)) 19 (by omega)) (by simp [aF,aJ,aW,bP,wkL,wk,wkR]) rfl trivial ?_
   simp -implicitDefEqProofs only [qY,qZ,zi,zj,zm,zq,zr,zv,zJ,zX,kQ,kR,kS,kT,kX,aA,cells?,yaB,yav,yaA,splice,kY,yag,yau,↓reduceIte,Nat.reduceEqDiff,yaw,kZ,yan,yay,Nat.reduceAdd,yaG,yaY,isC,yaR,yaK,true_and,and_true,and_self,yaI,not_false_eq_true,Nat.reduceLeDiff,lg0,wl,qar,↓qas,↓qau,↓qaw,↓qaA,↓qaC,↓qaD,↓qaH,↓qcn,↓qcp,yaa,aY,yar,↓Ef,↓pV,↓s10,g16,g7,yar,sp,Ci,lT]
   refine ⟨by simp only [lo,Fx.hi];omega,by omega,by simp only [lo,Fx.hi];omega,by omega,by omega,by omega,by simp only [lo,Fx.hi];omega,?_⟩
   exact fin _ _ (by rw [if_neg (by omega)];unfold next;rw [gM]) rfl rfl rfl
set_option maxRecDepth 20000
theorem b8 {b:UInt8}:lo .u32≤(b.toNat:Int)∧(b.toNat:Int)≤Fx.hi .u32:=by
 have:=b.toNat_lt
 simp only [lo,Fx.hi];omega
set_option maxRecDepth 20000
def kA:List V:=u6.map V.v
theorem Yy:yak V.v u6=kA:=rfl
theorem Yz {i:Nat} (h:i<64):kA[i]?=some (w (kW i)):=by
 have:∀ i:Fin 64,It.getD i.val 0<4294967296∧i.val<It.length:=by decide +kernel
 obtain ⟨h1,h2⟩:=this ⟨i,h⟩
 simp only at h1 h2
 unfold kA u6 kW
 rw [ybb,ybI,yal h2]
 rw [yag,yal h2] at h1 ⊢
 simp only [yaw] at h1
 have h3:(yaT 32 It[i]).toNat=It[i]:=by rw [ybF];omega
 simp only [ybu,Function.comp,yaw,w]
 rw [h3]
theorem Vz {q:List Blk}:∀ l:List Value,wfL q (l.map V.v)
 | []=>trivial
 | _::r=>⟨trivial,Vz r⟩
theorem Wu {q:List Blk}:wfL q kA:=Vz u6
attribute [irreducible] kA
def stp (s r:S8) (i:Nat):S8:=⟨if 0<i then s.a+r.a else s.a,if 1<i then s.b+r.b else s.b,if 2<i then s.c+r.c else s.c,if 3<i then s.d+r.d else s.d,if 0<i then s.e+r.e else s.e,if 1<i then s.f+r.f else s.f,if 2<i then s.g+r.g else s.g,if 3<i then s.h+r.h else s.h⟩
theorem aaZ (s r:S8):stp s r 4=s.add r:=rfl
theorem n0:((0:Nat):Int)=0:=rfl
theorem n1:((1:Nat):Int)=1:=rfl
theorem n2:((2:Nat):Int)=2:=rfl
theorem n3:((3:Nat):Int)=3:=rfl
theorem n8:((8:Nat):Int)=8:=rfl
theorem m64:((64:Nat):Int)=64:=rfl
theorem n4:((4:Nat):Int)=4:=rfl
abbrev z8:List V:=[.v (.int .u32 0),.v (.int .u32 0),.v (.int .u32 0),.v (.int .u32 0),.v (.int .u32 0),.v (.int .u32 0),.v (.int .u32 0),.v (.int .u32 0)]
theorem S8.enc_C (s:S8):s.enc.all isC=true:=rfl
set_option maxHeartbeats 2000000 in
theorem acK (s:S8) (bs:List UInt8) (hb:bs.length=64):Ok 131 [.agg s.enc,byV bs] (Is (.agg (comp s bs).enc)):=by
 refine ok_of lw131 (by simp) ?_
 unfold c131
 simp -implicitDefEqProofs only [rX,↓rY,aA,cells?,↓reduceIte,Nat.reduceEqDiff,Nat.reduceAdd,reduceCtorEq,aC,aK,S8.enc]
 have lW:(wds bs 64).length=64:=gM bs 64
 refine aE (acG bs hb) (by simp [aF,aJ,aW,bP,wkL,wk,wkR,wkB]) (by simp [ren,Xl]) trivial ?_
 simp -implicitDefEqProofs only [rX,↓rY,rdK,aA,cells?,splice,↓reduceIte,Nat.reduceEqDiff,Nat.reduceAdd,reduceCtorEq,aC,dN,isC,Nat.reduceLT,Nat.reduceLeDiff,aY,aQ,w0,afT,Yy,Ci,vF,lW,aaS lW,Vx vF,aaR,yaZ,n8,ybd,Nat.reduceSub]
 refine ⟨?_,?_⟩
 all_goals
  refine dB (fun i:Nat=>(⟨[(22,.i i),(21,.agg kA),(7,.ptr 4 0 0),(6,.ptr 3 0 0),(5,.ptr 2 0 0),(4,.ptr 1 0 0),(2,.ptr 0 0 0)],[.var [w s.a,w s.b,w s.c,w s.d,w s.e,w s.f,w s.g,w s.h],.var z8,.var (ws (wds bs 64)),.var [w (u5 (wn (wds bs 64)) s i).a,w (u5 (wn (wds bs 64)) s i).b,w (u5 (wn (wds bs 64)) s i).c,w (u5 (wn (wds bs 64)) s i).d],.var [w (u5 (wn (wds bs 64)) s i).e,w (u5 (wn (wds bs 64)) s i).f,w (u5 (wn (wds bs 64)) s i).g,w (u5 (wn (wds bs 64)) s i).h]],5⟩:St)) (fun i=>i≤64) (fun i=>64-i) 0 (yaq _) ?_ ?_
  ·refine ⟨by simp -implicitDefEqProofs only [rX,↓reduceIte,Nat.reduceEqDiff,leE];rfl,bT _,trivial,?_,?_⟩
   ·simp -implicitDefEqProofs only [rX,aB,wfE,wfV,Wu]
   ·simp -implicitDefEqProofs only [rX,wfB,wfV,wfL,iH]
  intro i hi N hN
  obtain ⟨r,hr⟩:∃ r,r=u5 (wn (wds bs 64)) s i:=⟨_,rfl⟩
  rw [←hr]
  simp only [c131l0]
  simp -implicitDefEqProofs only [rX,↓rY,rdK,aA,↓reduceIte,Nat.reduceEqDiff,Nat.reduceAdd,yaa,aQ,yar]
  cases h1:decide ((i:Int)<64) with
  | false =>
   have h1':=of_decide_eq_false h1
   have:i=64:=by omega
   subst this
   simp -implicitDefEqProofs only [↓rY]
   refine dB (fun i:Nat=>(⟨[(94,.i i),(7,.ptr 4 0 0),(6,.ptr 3 0 0),(4,.ptr 1 0 0),(2,.ptr 0 0 0)],[.var [w (stp s r i).a,w (stp s r i).b,w (stp s r i).c,w (stp s r i).d,w (stp s r i).e,w (stp s r i).f,w (stp s r i).g,w (stp s r i).h],.var z8,.var (ws (wds bs 64)),.var [w r.a,w r.b,w r.c,w r.d],.var [w r.e,w r.f,w r.g,w r.h]],5⟩:St)) (fun i=>i≤4) (fun i=>4-i) 0 (yaq _) ?_ ?_
   ·exact ⟨by simp -implicitDefEqProofs only [rX,↓reduceIte,Nat.reduceEqDiff,leE];rfl,bT _,trivial,by simp -implicitDefEqProofs only [rX,aB,wfE,wfV],by simp -implicitDefEqProofs only [rX,wfB,wfV,wfL,iH]⟩
   intro i hi N hN
   have hc:comp s bs=s.add r:=by unfold comp;rw [hr]
   have hcase:i=0∨i=1∨i=2∨i=3∨i=4:=by omega
   rcases hcase with rfl|rfl|rfl|rfl|rfl
   all_goals
    simp only [c131l1]
    simp -implicitDefEqProofs only [qX,qY,qZ,zc,zd,ze,zg,zh,zi,zj,zm,zq,zr,zv,zX,kQ,kR,kS,kT,kX,aA,cells?,yaB,yav,yaA,splice,kY,yag,yau,↓reduceIte,Nat.reduceEqDiff,yaw,kZ,wb,↓wc,↓wd,ybe,yaL,yan,yay,Nat.reduceAdd,ybf,wh,aT,aV,ybv,ybw,wfV,wfL,yaS,yaV,ybx,ybg,yaG,yaY,isC,yaR,yaK,true_and,and_true,and_self,yaI,yah,not_false_eq_true,Nat.reduceLT,Nat.reduceLeDiff,yab,lg0,wl,wm,wo,lg1,wt,wu,lg2,wx,wy,lg3,wD,wE,lg4,wI,wJ,lg5,wM,wN,lg6,wQ,wR,lg7,wU,wV,qar,↓qas,↓qau,↓qaw,↓qax,↓qaA,↓qaB,↓qaC,↓qaD,↓qaE,↓qaH,↓qcn,↓qcv,aY,yar,yaZ,Int.reduceAdd,n0,n1,n2,n3,n4,n8,decide_true,decide_false,yby,ybd,↓Ef]
   ·exact ⟨by decide,by decide,hN _ 1 (by omega) (by omega) ⟨by simp -implicitDefEqProofs only [rX,↓reduceIte,Nat.reduceEqDiff,leE];rfl,bT _,trivial,by simp -implicitDefEqProofs only [rX,aB,wfE,wfV],by simp -implicitDefEqProofs only [rX,wfB,wfV,wfL,iH]⟩⟩
   ·exact ⟨by decide,by decide,hN _ 2 (by omega) (by omega) ⟨by simp -implicitDefEqProofs only [rX,↓reduceIte,Nat.reduceEqDiff,leE];rfl,bT _,trivial,by simp -implicitDefEqProofs only [rX,aB,wfE,wfV],by simp -implicitDefEqProofs only [rX,wfB,wfV,wfL,iH]⟩⟩
   ·exact ⟨by decide,by decide,hN _ 3 (by omega) (by omega) ⟨by simp -implicitDefEqProofs only [rX,↓reduceIte,Nat.reduceEqDiff,leE];rfl,bT _,trivial,by simp -implicitDefEqProofs only [rX,aB,wfE,wfV],by simp -implicitDefEqProofs only [rX,wfB,wfV,wfL,iH]⟩⟩
   ·exact ⟨by decide,by decide,hN _ 4 (by omega) (by omega) ⟨by simp -implicitDefEqProofs only [rX,↓reduceIte,Nat.reduceEqDiff,leE];rfl,bT _,trivial,by simp -implicitDefEqProofs only [rX,aB,wfE,wfV],by simp -implicitDefEqProofs only [rX,wfB,wfV,wfL,iH]⟩⟩
   ·rw [hc,aaZ]
  | true =>
   have h1':=of_decide_eq_true h1
   have gw:(ws (wds bs 64))[i]?=some (w (wn (wds bs 64) i)):=Bt (by omega)
   have ck:(0≤(i:Int)∧(i:Int)<((64:Nat):Int)):=by omega
   simp -implicitDefEqProofs only [yau,kZ,↓wc,yaK,true_and,and_self,Nat.reduceLT,lg0,lg1,lg2,↓qas,eq_true ck,Yz (show i<64 by omega),yaZ,n4,yby,ybd,↓pV,↓Se,↓aaB,gw]
   refine aE (Wh r.e 6 11 25 (by omega) (by omega) (by omega)) (by simp [aF,aJ,aW,bP,wkL,wk,wkR]) rfl trivial ?_
   simp -implicitDefEqProofs only [qa,qe,qs,qP,rdK,qQ,qR,qS,qT,qV,zc,zm,zq,zv,zX,kM,kQ,kS,kT,kX,aA,yaB,yav,kY,yag,yau,↓reduceIte,Nat.reduceEqDiff,yaw,kZ,yan,yay,Nat.reduceAdd,yaC,yaQ,yaR,yaK,true_and,and_true,and_self,Nat.reduceLT,lg0,lg1,lg2,qar,↓qas,↓qau,↓qaw,↓qaA,↓qaH,aQ,yar,eq_true ck,yaZ,n4,yby,ybd,↓Ef,↓pV,↓Se]
   refine aE (Wh r.a 2 13 22 (by omega) (by omega) (by omega)) (by simp [aF,aJ,aW,bP,wkL,wk,wkR]) rfl trivial ?_
   simp -implicitDefEqProofs only [qa,qe,qR,qT,qY,zc,zi,zj,zm,zq,zr,zv,zG,zX,kQ,kR,kS,kT,kX,aA,cells?,yaB,yav,yaA,splice,kY,yag,yau,↓reduceIte,Nat.reduceEqDiff,yaw,kZ,ybe,yaL,yan,yay,Nat.reduceAdd,ybf,bQ,yaC,yaQ,yaS,yaV,ybg,yaG,yaY,isC,yaR,yaK,true_and,and_true,and_self,yaI,yah,not_false_eq_true,Nat.reduceLT,Nat.reduceLeDiff,yab,lg0,wl,wm,wo,lg1,wr,wt,wu,lg2,ww,wx,wy,lg3,wC,wD,qar,↓qas,↓qau,↓qaw,↓qaA,↓qaC,↓qaE,↓qaH,↓qcn,aY,yar,yaZ,n4,yby,ybd,↓Ef,splice]
   refine ⟨by simp only [lo,Fx.hi];omega,hN _ (i+1) (by omega) (by omega) ?_⟩
   have e:u5 (wn (wds bs 64)) s (i+1)=r.rnd (kW i) (wn (wds bs 64) i):=by rw [hr];rfl
   simp only [e]
   exact ⟨by simp -implicitDefEqProofs only [rX,↓reduceIte,Nat.reduceEqDiff,leE];simp,bT _,trivial,by simp -implicitDefEqProofs only [rX,aB,wfE,wfV,Wu],by simp -implicitDefEqProofs only [rX,wfB,wfV,wfL,iH]⟩
set_option maxRecDepth 20000
def Stm.enc (S:Stm):List V:=sC S.st S.blk S.n
theorem Rm {s:S8} {f:Nat→Option Nat}:cJ f s.enc=s.enc:=rfl
theorem Ja {s:S8} {h:List Blk} {g:Nat→Option Nat}:aF h g s.enc:=⟨trivial,trivial,trivial,trivial,trivial,trivial,trivial,trivial,trivial⟩
theorem Vc {s:S8} {h:List Blk} {g:Nat→Option Nat}:wkL s.enc (aW h g s.enc):=⟨rfl,rfl,rfl,rfl,rfl,rfl,rfl,rfl,trivial⟩
theorem enc_len {s:S8}:s.enc.length=8:=rfl
theorem Xs {t:Bs}:eP (sb t)=t.map by1:=rfl
set_option maxHeartbeats 2000000 in
theorem Yj (S:Stm) (m t:Bs) (h:Rp S m) (hm:m.length+t.length≤1152921504606846976):Ok 97 [.agg S.enc,sv t] (IsQ (fun S'=>Rp S' (m++t)) (fun S'=>.agg S'.enc) (fun _=>[])):=by
 refine ok_of lw97 (by simp) ?_
 unfold c97
 simp -implicitDefEqProofs only [rX,↓rY,aA,cells?,↓reduceIte,aC,aQ,aK,Stm.enc]
 refine dB (fun g:Stm × Bs × Bs=>(⟨[(1,sv g.2.2),(4,.ptr 1 0 0),(2,.ptr 0 0 0)],[.var (sC g.1.st g.1.blk g.1.n),.var (sC ⟨0,0,0,0,0,0,0,0⟩ (yad 64 0) 0)],2⟩:St)) (fun g=>Rp g.1 (m++g.2.1)∧g.2.1++g.2.2=t) (fun g=>g.2.2.length) (S,[],t) ⟨by simpa using h,rfl⟩ ?_ ?_
 ·refine ⟨by simp -implicitDefEqProofs only [rX,↓reduceIte,Nat.reduceEqDiff,reduceCtorEq,leE],⟨bA _,?_,trivial⟩,trivial,by simp -implicitDefEqProofs only [rX,aB,wfE,wfV],⟨i5,i5,trivial⟩⟩
  show bB _ _
  rw [show sC ⟨0,0,0,0,0,0,0,0⟩ (yad 64 0) 0=yad 8 (w 0)++(yad 64 (u8 0)++[n64 0]) by unfold sC;rfl]
  exact lX _
 rintro ⟨S,c,r⟩ ⟨hR,hcr⟩ N hN
 simp only at hR hcr
 have hl:=hR.len
 have hn:=hR.n
 have hsum:c.length+r.length=t.length:=by rw [←hcr,yah]
 rw [yah] at hn
 obtain ⟨j,hj⟩:∃ j,j=S.n%64:=⟨_,rfl⟩
 have hj64:j<64:=by omega
 obtain ⟨cc,hcc⟩:∃ cc,cc=r.take (64-j):=⟨_,rfl⟩
 have hcl:cc.length=min r.length (64-j):=by rw [hcc,yas];omega
 have e1:IntKind.i64.wrap (Int.tmod (S.n:Int) 64)=(j:Int):=by
  rw [show Int.tmod (S.n:Int) 64=(j:Int) by rw [hj];simp [Int.tmod_eq_emod]]
  exact dR _ _ ⟨by simp only [lo];omega,by simp only [Fx.hi];omega⟩
 have f1:(yai (64-j) (eP (sb r))).flatten=cc.map u8:=by
  rw [hcc,Xs,←yaN]
  induction r.take (64-j) with
  | nil=>rfl
  | cons x q ih=>rw [yaC,List.flatten_cons,ih];rfl
 have f2:min (eP (sb r)).length (64-j)=cc.length:=by rw [Xs,yao,hcl]
 have e2:IntKind.u64.wrap (cc.length:Int)=(cc.length:Int):=dR _ _ ⟨by simp only [lo];omega,by simp only [Fx.hi];omega⟩
 have e3:IntKind.u64.wrap ((S.n:Int)+(cc.length:Int))=((S.n+cc.length:Nat):Int):=by
  rw [←Int.natCast_add]
  exact dR _ _ ⟨by simp only [lo];omega,by simp only [Fx.hi];omega⟩
 have f3:(sC S.st S.blk S.n).take (8+j)++cc.map u8++(sC S.st S.blk S.n).drop (8+j+cc.length)=sC S.st (lN S.blk cc j) S.n:=Ty hl (by omega)
 have pl:(lN S.blk cc j).length=64:=by rw [Fg (by omega),hl]
 have sx:(sb r).extract cc.length r.length=sb (r.drop cc.length):=by rw [Hu,List.take_length]
 have hst:=hR.step (c:=cc) (by omega)
 simp only [c97l0]
 simp -implicitDefEqProofs only [rX,↓rY,aA,cells?,splice,↓reduceIte,Nat.reduceEqDiff,Nat.reduceAdd,dN,isC,Nat.reduceLeDiff,yaa,aY,mQ,Kf,adG,Kf,Tx hl,eK hl,e1,f1,f2,f3,e2,Tx pl,eK pl,e3,Xz pl,sx,yas,ybq,yaZ,m64]
 cases hr:(!r==([]:Bs)) with
 | false =>
  have hr':r=[]:=by simpa using hr
  subst hr'
  rw [yan] at hcr
  subst hcr
  have zl:(yad 64 (0:UInt8)).length=64:=rfl
  simp -implicitDefEqProofs only [rX,↓rY,j3 hl,Tz,eK zl,xA zl,eK hl,Nat.min_self]
  refine dO S hR ?_
  simp -implicitDefEqProofs only [rX,↓rY,↓reduceIte,Nat.reduceEqDiff,aT,aV,leH,aD,wfB,wfV,j3 hl,eK hl,i5]
 | true =>
  have hr':r≠[]:=by simpa using hr
  have hrl:0<r.length:=List.length_pos_iff.2 hr'
  simp -implicitDefEqProofs only [↓rY]
  refine ⟨by omega,by omega,by omega,by omega,by omega,⟨by simp only [lo];omega,by simp only [Fx.hi];omega⟩,?_⟩
  have hrd:cc++r.drop cc.length=r:=by
   by_cases h:64-j≤r.length
   ·rw [show cc.length=64-j by omega,hcc,yce]
   ·rw [hcc,yae (by omega),yaz (by omega),yan]
  rw [←hj] at hst
  have hI:c++cc++r.drop cc.length=t:=by rw [yaF,hrd,hcr]
  rw [yaF] at hst
  cases h6:((j:Int)+(cc.length:Int)==64) with
  | true =>
   have h6':j+cc.length=64:=by have:=eq_of_beq h6;omega
   rw [if_pos h6'] at hst
   simp -implicitDefEqProofs only [↓rY,abC]
   refine ⟨by omega,⟨by omega,by omega,by omega⟩,?_⟩
   refine aE (acK S.st (lN S.blk cc j) pl) ⟨⟨Ja,trivial,trivial⟩,Vc,?_,trivial⟩ (by simp only [ren,Rm]) trivial ?_
   ·show wkB (if (decide (8+64≤(sC S.st (lN S.blk cc j) (S.n+cc.length)).length)&&(((sC S.st (lN S.blk cc j) (S.n+cc.length)).drop 8).take 64).all isD)=true then V.bro 1 ((((sC S.st (lN S.blk cc j) (S.n+cc.length)).drop 8).take 64).map fun c=>[c]) else V.any) 1 ((lN S.blk cc j).map by1)
    rw [if_pos (by rw [eK pl,Oy pl];rfl),Tw pl]
    exact ⟨rfl,rfl⟩
   simp -implicitDefEqProofs only [rX,↓rY,cells?,splice,↓reduceIte,Nat.reduceEqDiff,Nat.reduceLeDiff,aY,Xy,eK pl,enc_len,S8.enc_C]
   refine hN _ (⟨comp S.st (lN S.blk cc j),lN S.blk cc j,S.n+cc.length⟩,c++cc,r.drop cc.length) ⟨hst,hI⟩ (by simp only [ybq];omega) ?_
   exact ⟨by simp -implicitDefEqProofs only [rX,↓reduceIte,Nat.reduceEqDiff,leE],bT _,trivial,by simp -implicitDefEqProofs only [rX,aB,wfE,wfV],⟨i5,i5,trivial⟩⟩
  | false =>
   have h6':j+cc.length≠64:=by
    intro h
    have:((j:Int)+(cc.length:Int)==64)=true:=by rw [beq_iff_eq];omega
    rw [this] at h6;cases h6
   rw [if_neg h6'] at hst
   simp -implicitDefEqProofs only [↓rY]
   refine hN _ (⟨S.st,lN S.blk cc j,S.n+cc.length⟩,c++cc,r.drop cc.length) ⟨hst,hI⟩ (by simp only [ybq];omega) ?_
   exact ⟨by simp -implicitDefEqProofs only [rX,↓reduceIte,Nat.reduceEqDiff,leE],bT _,trivial,by simp -implicitDefEqProofs only [rX,aB,wfE,wfV],⟨i5,i5,trivial⟩⟩
set_option maxRecDepth 20000
def us (l:Bs):List V:=l.map u8
theorem oY {l:Bs}:(us l).length=l.length:=by simp [us]
theorem Lx {l:Bs}:(us l).all isC=true:=by simp [us,isC,isD]
theorem afR {l:Bs}:(us l).all isD=true:=by simp [us,isD]
theorem aaX {l:Bs}:bB (us l) (us l):=lX _
theorem gT {l:Bs} {q:List Blk}:wfL q (us l):=by
 unfold us
 induction l with
 | nil=>trivial
 | cons x r ih=>exact ⟨trivial,ih⟩
theorem mI {l:Bs} {f:Nat→Option Nat}:cJ f (us l)=us l:=by
 unfold us
 induction l with
 | nil=>rfl
 | cons x r ih=>exact congrArg (u8 x::·) ih
theorem Tm {l:Bs} {n:Nat}:(us l).take n=us (l.take n):=by simp [us,yaN]
theorem Xm {l:Bs} {i:Nat} {x:UInt8} (hi:i<l.length):(us l).take i++[u8 x]++(us l).drop (i+1)=us (l.set i x):=by
 unfold us
 rw [ybH,ycc,if_pos (by simpa using hi)]
 simp
theorem Xn {l:Bs} {i:Nat} (hi:i<l.length):(us l)[i]?=some (u8 (bn l i)):=by
 unfold us bn
 rw [ybI,yal hi,yag,yal hi]
 rfl
attribute [irreducible] us
def z32:Bs:=yad 32 0
theorem vG:z32.length=32:=rfl
theorem w32:yak V.v (ybJ 32 (Value.int IntKind.u8 0)).toList=us z32:=by unfold us;rfl
attribute [irreducible] z32
def pz (k:Nat):Bs:=128::yad k 0
theorem tE {k:Nat}:(pz k).length=k+1:=by simp [pz]
theorem Yf {k:Nat}:pz k++[0]=pz (k+1):=by
 unfold pz
 rw [yaL,←List.replicate_succ']
theorem agL:pz 0=[128]:=rfl
attribute [irreducible] pz
theorem pD {M:List Nat}:∀ l:List V,(∀ x∈l,∃ u,x=.v u)→bN M l=l
 | [],_=>rfl
 | x::r,h=>by
  obtain ⟨u,rfl⟩:=h x yaO
  show V.v u::bN M r=_
  rw [pD r fun y hy=>h y (yaP _ hy)]
theorem vZ {M:List Nat} {l:Bs}:bN M (us l)=us l:=pD _ (by
 unfold us
 intro x hx
 obtain ⟨b,_,rfl⟩:=yaH.1 hx
 exact ⟨_,rfl⟩)
theorem iM {s:S8} {b:Bs} {n:Nat}:∀ x∈sC s b n,∃ u,x=V.v u:=by
 unfold sC
 intro x hx
 simp only [S8.enc,ybL,yaH,yaW,yaI,or_false] at hx
 rcases hx with (rfl|rfl|rfl|rfl|rfl|rfl|rfl|rfl)|⟨u,_,rfl⟩|rfl<;>exact ⟨_,rfl⟩
theorem Eu {M:List Nat} {s:S8} {b:Bs} {n:Nat}:bN M (sC s b n)=sC s b n:=pD _ iM
theorem dK {h:List Blk} {g:Nat→Option Nat}:∀ l:List V,(∀ x∈l,∃ u,x=.v u)→aF h g l∧wkL l (aW h g l)
 | [],_=>⟨trivial,trivial⟩
 | x::r,q=>by
  obtain ⟨u,rfl⟩:=q x yaO
  have:=dK (h:=h) (g:=g) r fun y hy=>q y (yaP _ hy)
  exact ⟨⟨trivial,this.1⟩,rfl,this.2⟩
def l8 (n i:Nat):Bs:=(yam i).map fun i=>UInt8.ofNat (8*n/2 ^ (56-8*i))
theorem aiD {n i:Nat}:l8 n (i+1)=l8 n i++[UInt8.ofNat (8*n/2 ^ (56-8*i))]:=by simp [l8,ybh]
theorem Dl {n i:Nat}:(l8 n i).length=i:=by simp [l8]
theorem iU:∀ l:Bs,bytesOf (l.map by1)=some l
 | []=>rfl
 | b::r=>by
  show (bytesOf (r.map by1)).map (UInt8.ofNat ((b.toNat:Int)).toNat::·)=_
  rw [iU r]
  simp
theorem Bc {l:Bs}:({ data:=l.toArray }:ByteArray)=sb l:=rfl
theorem Yh {n:Nat}:pz (zeros n)++l8 n 8=pad n:=by unfold pz;rfl
def oB (s:S8) (i:Nat):Bs:=(yam i).map (Cz s)++yad (32-i) 0
theorem Yu {s:S8} {i:Nat} (h:i≤32):(oB s i).length=32:=by simp [oB];omega
theorem aiA {s:S8}:oB s 0=z32:=by unfold z32;rfl
theorem acU {s:S8}:oB s 32=(yam 32).map (Cz s):=by simp [oB]
theorem Ys {s:S8} {i:Nat} (h:i<32):(oB s i).set i (Cz s i)=oB s (i+1):=by
 unfold oB
 rw [ybs _ _ (by simp),yao,ybP,ybM,show 32-i=(32-(i+1))+1 by omega,ybN,yaA,ybh,yap]
 simp
theorem Tv {s:S8} {b:Bs} {n j:Nat} (h:j<8):(sC s b n)[j]?=some (w (wn s.l j)):=by
 unfold sC
 rw [ybt (by simp [S8.enc];omega)]
 have:j=0∨j=1∨j=2∨j=3∨j=4∨j=5∨j=6∨j=7:=by omega
 rcases this with rfl|rfl|rfl|rfl|rfl|rfl|rfl|rfl<;>rfl
set_option maxHeartbeats 2000000 in
theorem agM (S:Stm) (m:Bs) (h:Rp S m) (hm:m.length≤576460752303423488):Ok 99 [.agg S.enc] (Is (.agg (us (sha m)))):=by
 refine ok_of lw99 (by simp) ?_
 unfold c99
 have hn:=h.n
 have hl:=h.len
 have e8:IntKind.u64.wrap (8*(S.n:Int))=((8*S.n:Nat):Int):=by
  rw [show (8*(S.n:Int))=((8*S.n:Nat):Int) by omega]
  exact dR _ _ ⟨by simp only [lo];omega,by simp only [Fx.hi];omega⟩
 simp -implicitDefEqProofs only [rX,↓rY,aA,cells?,↓reduceIte,Nat.reduceEqDiff,Nat.reduceAdd,aC,cI,isD,Nat.reduceLT,aQ,aK,Stm.enc,w32,Tx hl,e8]
 refine dB (fun k:Nat=>(⟨[(4,.sl 2 0 (k+1)),(3,n64 (8*S.n)),(2,.ptr 1 0 0),(1,.ptr 0 0 0)],[.var (sC S.st S.blk S.n),.var (us z32),.arr 1 ((pz k).map by1)],3⟩:St)) (fun k=>k≤zeros m.length) (fun k=>zeros m.length-k) 0 (yaq _) ?_ ?_
 ·exact ⟨by simp -implicitDefEqProofs only [rX,↓reduceIte,Nat.reduceEqDiff,leE],⟨bA _,bA _,by rw [agL];exact bA _,trivial⟩,trivial,by simp -implicitDefEqProofs only [rX,aB,wfE,wfV],by simp -implicitDefEqProofs only [rX,wfB,i5,gT]⟩
 intro k hk N hN
 have ei:IntKind.i64.wrap (S.n:Int)=(S.n:Int):=dR _ _ ⟨by simp only [lo];omega,by simp only [Fx.hi];omega⟩
 have hz:=Nt m.length
 have hz2:zeros m.length<64:=by unfold zeros;omega
 have tk:yai (k+1) (yak by1 (pz k))=yak by1 (pz k):=yae (by rw [yao,tE];exact yab _)
 have b0:(yak by1 (pz k))++[[V.v (Value.int IntKind.u8 0)]]=(pz (k+1)).map by1:=by rw [←Yf,yap];rfl
 simp only [c99l0]
 simp -implicitDefEqProofs only [rX,↓rY,aA,cells?,↓reduceIte,Nat.reduceEqDiff,Nat.reduceAdd,reduceCtorEq,aC,cI,bU,bD,kill,St.kill,isD,Nat.reduceLT,Nat.reduceLeDiff,aY,aQ,yar,Tx hl,ei,tE,tk,b0,vZ,Eu]
 intro _
 have hmod:((S.n:Int)+((k+1:Nat):Int)).tmod 64=(((m.length+1+k)%64:Nat):Int):=by
  rw [show ((S.n:Int)+((k+1:Nat):Int))=((m.length+1+k:Nat):Int) by omega]
  rfl
 refine ⟨⟨by simp only [lo];omega,by simp only [Fx.hi];omega⟩,by omega,?_⟩
 rw [hmod]
 cases hc:((((m.length+1+k)%64:Nat):Int) != 56) with
 | true =>
  have hc':(m.length+1+k)%64≠56:=by intro h;rw [h] at hc;simp at hc
  have hlt:k<zeros m.length:=by
   rcases Nat.lt_or_ge k (zeros m.length) with h|h
   ·exact h
   ·have:k=zeros m.length:=by omega
    rw [this] at hc';exact absurd hz hc'
  simp -implicitDefEqProofs only [↓rY]
  refine ⟨by omega,hN _ (k+1) (by omega) (by omega) ?_⟩
  exact ⟨by simp -implicitDefEqProofs only [rX,↓reduceIte,Nat.reduceEqDiff,leE],⟨bA _,bA _,bA _,trivial⟩,trivial,by simp -implicitDefEqProofs only [rX,aB,wfE,wfV],by simp -implicitDefEqProofs only [rX,wfB,i5,gT]⟩
 | false =>
  have hc':(m.length+1+k)%64=56:=by
   have h2:¬((((m.length+1+k)%64:Nat):Int)≠56):=fun h=>by rw [bne_iff_ne.2 h] at hc;cases hc
   omega
  have hke:k=zeros m.length:=by omega
  simp -implicitDefEqProofs only [↓rY]
  clear hN N hmod tk b0 hk
  refine dB (fun i:Nat=>(⟨[(23,.i i),(4,.sl 2 0 (k+1+i)),(3,n64 (8*S.n)),(2,.ptr 1 0 0),(1,.ptr 0 0 0)],[.var (sC S.st S.blk S.n),.var (us z32),.arr 1 ((pz k++l8 m.length i).map by1)],3⟩:St)) (fun i=>i≤8) (fun i=>8-i) 0 (yaq _) ?_ ?_
  ·exact ⟨by simp -implicitDefEqProofs only [rX,↓reduceIte,Nat.reduceEqDiff,leE];rfl,⟨bA _,bA _,by rw [show l8 m.length 0=[] from rfl,yan];exact bA _,trivial⟩,trivial,by simp -implicitDefEqProofs only [rX,aB,wfE,wfV],by simp -implicitDefEqProofs only [rX,wfB,i5,gT]⟩
  intro i hi N hN
  simp only [c99l1]
  simp -implicitDefEqProofs only [rX,↓rY,aA,cells?,↓reduceIte,Nat.reduceEqDiff,Nat.reduceAdd,reduceCtorEq,aC,cI,bU,bD,kill,St.kill,isD,Nat.reduceLT,Nat.reduceLeDiff,aY,aQ,yar]
  cases h1:decide ((i:Int)<8) with
  | true =>
   have h1':=of_decide_eq_true h1
   have sh:∀ {K:V→Prop},cQ .shr .u64 ((8*S.n:Nat):Int) (56-8*(i:Int)) K=K (.v (.int .u64 ((8*S.n/2 ^ (56-8*i):Nat):Int))):=by
    intro K
    have h:cQ .shr .u64 ((8*S.n:Nat):Int) (56-8*(i:Int)) K=(0≤(56-8*(i:Int))∧K (.v (.int .u64 (Int.fdiv ((8*S.n:Nat):Int) (2 ^ (min (56-8*(i:Int)).toNat 64)))))):=rfl
    rw [h,show (56-8*(i:Int)).toNat=56-8*i by omega,ybo (by omega)]
    have h2:(2:Int) ^ (56-8*i)=((2 ^ (56-8*i):Nat):Int):=by simp
    rw [h2,yba _ (yaU _),←Int.natCast_ediv]
    exact propext ⟨fun h=>h.2,fun h=>⟨by omega,h⟩⟩
   have cv:IntKind.u8.wrap ((8*S.n/2 ^ (56-8*i):Nat):Int)=((UInt8.ofNat (8*m.length/2 ^ (56-8*i))).toNat:Int):=by
    rw [hn,UInt8.toNat_ofNat']
    simp [IntKind.wrap,IntKind.bits,IntKind.signed]
   simp -implicitDefEqProofs only [rX,↓rY,kill,St.kill,↓sh,cv,vZ,Eu,tE,Dl]
   have tk2:yai (k+1+i) (yak by1 (pz k++l8 m.length i))=yak by1 (pz k++l8 m.length i):=yae (by rw [yao,yah,tE,Dl];exact yab _)
   rw [tk2]
   refine ⟨⟨by simp only [lo];omega,by simp only [Fx.hi];omega⟩,⟨by simp only [lo];omega,by simp only [Fx.hi];omega⟩,by omega,⟨by simp only [lo];omega,by simp only [Fx.hi];omega⟩,?_⟩
   refine hN _ (i+1) (by omega) (by omega) ?_
   exact ⟨by simp -implicitDefEqProofs only [rX,↓reduceIte,Nat.reduceEqDiff,leE];simp;omega,⟨bA _,bA _,by rw [aiD,←yaF,yap (l₂:=[_])];exact bA _,trivial⟩,trivial,by simp -implicitDefEqProofs only [rX,aB,wfE,wfV],by simp -implicitDefEqProofs only [rX,wfB,i5,gT]⟩
  | false =>
   have h1':=of_decide_eq_false h1
   have:i=8:=by omega
   subst this
   have tk2:yai (k+1+8) (yak by1 (pz k++l8 m.length 8))=yak by1 (pz k++l8 m.length 8):=yae (by rw [yao,yah,tE,Dl];exact yab _)
   simp -implicitDefEqProofs only [rX,↓rY,tk2,iU,Bc,j3 hl,eK hl,tE,Dl]
   refine ⟨.inr trivial,?_⟩
   clear hN N
   have hpd:pz k++l8 m.length 8=pad m.length:=by rw [hke];exact Yh
   rw [hpd]
   refine sG _ _ _ (Yj S m (pad m.length) h (by simp [pad,len8];omega)) ⟨⟨(dK _ iM).1,trivial,trivial⟩,(dK _ iM).2,rfl,trivial⟩ (fun g=>by simp only [ren,Stm.enc,vI]) trivial ?_
   intro S' hS'
   have hl':=hS'.len
   have hst':S'.st=abA m:=hS'.st
   simp -implicitDefEqProofs only [rX,↓rY,aA,cells?,splice,↓reduceIte,Nat.reduceEqDiff,Nat.reduceAdd,aC,aY,aQ,Stm.enc,j3 hl',eK hl',Tz,eK hl,xA hl,w32]
   refine dB (fun i:Nat=>(⟨[(40,.i i),(6,.ptr 3 0 0),(2,.ptr 1 0 0),(1,.ptr 0 0 0)],[.var (sC S'.st S'.blk S'.n),.var (us z32),.arr 1 ((pad m.length).map by1),.var (us (oB S'.st i))],4⟩:St)) (fun i=>i≤32) (fun i=>32-i) 0 (yaq _) ?_ ?_
   ·exact ⟨by simp -implicitDefEqProofs only [rX,↓reduceIte,Nat.reduceEqDiff,leE];rfl,⟨bA _,bA _,bA _,by rw [aiA];exact bA _,trivial⟩,trivial,by simp -implicitDefEqProofs only [rX,aB,wfE,wfV],by simp -implicitDefEqProofs only [rX,wfB,i5,gT]⟩
   intro i hi N hN
   simp only [c99l2]
   simp -implicitDefEqProofs only [rX,↓rY,aA,cells?,splice,↓reduceIte,Nat.reduceEqDiff,Nat.reduceAdd,aT,aV,wfV,isC,yaa,aY,yar]
   cases h1:decide ((i:Int)<32) with
   | true =>
    have h1':=of_decide_eq_true h1
    have lo':(oB S'.st i).length=32:=Yu hi
    have ed:Int.tdiv (i:Int) 4=((i/4:Nat):Int):=rfl
    have er:Int.tmod (i:Int) 4=((i%4:Nat):Int):=rfl
    have es:(24-8*((i%4:Nat):Int))=((24-8*(i%4):Nat):Int):=by omega
    have sh:∀ {x:W} {K:V→Prop},cQ .shr .u32 (x.toNat:Int) ((24-8*(i%4):Nat):Int) K=K (w (x >>> (24-8*(i%4)))):=fun {x K}=>Ee (by omega)
    have cv:IntKind.u8.wrap ((wn S'.st.l (i/4) >>> (24-8*(i%4))).toNat:Int)=((Cz S'.st i).toNat:Int):=by
     unfold Cz
     rw [UInt8.toNat_ofNat',yca,ycb]
     simp [IntKind.wrap,IntKind.bits,IntKind.signed]
    have sp:∀ x:UInt8,yai i (us (oB S'.st i))++[u8 x]++yaJ (i+1) (us (oB S'.st i))=us ((oB S'.st i).set i x):=fun x=>Xm (by omega)
    simp -implicitDefEqProofs only [rX,↓rY,Nat.reduceLeDiff,yaa,ed,er,es,↓sh,Tv (show i/4<8 by omega),cv,sp,oY,lo']
    refine ⟨by omega,⟨by simp only [lo];omega,by simp only [Fx.hi];omega⟩,by omega,by omega,⟨by simp only [lo];omega,by simp only [Fx.hi];omega⟩,⟨by simp only [lo];omega,by simp only [Fx.hi];omega⟩,by omega,by omega,⟨by simp only [lo];omega,by simp only [Fx.hi];omega⟩,?_⟩
    refine hN _ (i+1) (by omega) (by omega) ?_
    rw [Ys (by omega)]
    exact ⟨by simp -implicitDefEqProofs only [rX,↓reduceIte,Nat.reduceEqDiff,leE];simp,bT _,trivial,by simp -implicitDefEqProofs only [rX,aB,wfE,wfV],by simp -implicitDefEqProofs only [rX,wfB,i5,gT]⟩
   | false =>
    have h1':=of_decide_eq_false h1
    have:i=32:=by omega
    subst this
    have l32:((yam 32).map (Cz S'.st)).length=32:=by simp
    have tk3:(us ((yam 32).map (Cz S'.st))).take 32=us ((yam 32).map (Cz S'.st)):=yae (by rw [oY,l32];exact yab _)
    have dk3:(us z32).drop 32=[]:=yaz (by rw [oY,vG];exact yab _)
    simp -implicitDefEqProofs only [rX,↓rY,acU,tk3,oY,l32,Lx,vG,dk3,gT]
    rw [hst']
    rfl
set_option maxRecDepth 20000
set_option maxRecDepth 20000
theorem Za:iv.enc=[.v (.int .u32 1779033703),.v (.int .u32 3144134277),.v (.int .u32 1013904242),.v (.int .u32 2773480762),.v (.int .u32 1359893119),.v (.int .u32 2600822924),.v (.int .u32 528734635),.v (.int .u32 1541459225)]:=rfl
theorem n5:((5:Nat):Int)=5:=rfl
theorem n6:((6:Nat):Int)=6:=rfl
theorem n7:((7:Nat):Int)=7:=rfl
set_option maxRecDepth 20000
theorem Cu {m:Bs}:(sha m).length=32:=by simp [sha]
def z16:Bs:=yad 16 0
theorem Ch:z16.length=16:=rfl
theorem w16:yak V.v (ybJ 16 (Value.int IntKind.u8 0)).toList=us z16:=by unfold us;rfl
attribute [irreducible] z16
def cp (l:Bs) (i:Nat):Bs:=l.take i++yad (16-i) 0
set_option maxRecDepth 20000
def S0:Stm:=⟨iv,yad 64 0,0⟩
theorem rp0:Rp S0 []:=⟨rfl,rfl,rfl,rfl⟩
theorem aaM:S0.enc=iv.enc++(yad 64 (u8 0)++[n64 0]):=by unfold Stm.enc sC;rfl
theorem Nu:oX.toList.length=73:=rfl
set_option maxHeartbeats 2000000 in
theorem agO:Ok 96 [] (Is (.agg S0.enc)):=by
 refine ok_of lw96 (by simp) ?_
 unfold c96
 simp -implicitDefEqProofs only [rX,↓rY,aA,cells?,splice,↓reduceIte,Nat.reduceAdd,reduceCtorEq,aC,bQ,aT,aV,wfV,isC,Nat.reduceLeDiff,aY,aK,aaM,Za,Nu]
 refine ⟨yab _,?_,?_⟩
 ·simp [wfL,wfV]
 ·rfl
end Go.Fx.E
namespace Go.Fx.E
open Go Go.Fx
def zz (x:Int):Nat:=if 0≤x then (2*x).toNat else (-2*x-1).toNat
def vi (n:Nat):Bs:=if h:n<128 then [UInt8.ofNat n] else UInt8.ofNat (n%128+128)::vi (n/128)
termination_by n
decreasing_by omega
def nB (x:Int):Bs:=vi (zz x)
def tB (t:Bs):Bs:=nB t.length++t
def lB (l:List Int):Bs:=nB l.length++(l.map nB).flatten
def inB (k:Int) (l:List Bs):Bs:=UInt8.ofNat (k%256).toNat::(l.map tB).flatten
def lC (k:Int) (l:List Bs):Bs:=(sha (inB k l)).take 16
theorem Od {n:Nat} (h:n<128):vi n=[UInt8.ofNat n]:=by rw [vi,dif_pos h]
theorem Wb {n:Nat} (h:¬n<128):vi n=UInt8.ofNat (n%128+128)::vi (n/128):=by rw [vi,dif_neg h]
theorem Ns {x:Int} (hx:-9223372036854775808≤x∧x≤9223372036854775807):zz x<18446744073709551616:=by unfold zz;split<;>omega
theorem wrap64 {x:Int}:IntKind.u64.wrap x=x%18446744073709551616:=by simp [IntKind.wrap,IntKind.bits,IntKind.signed]
theorem Js {x:Int}:IntKind.u8.wrap x=x%256:=by simp [IntKind.wrap,IntKind.bits,IntKind.signed]
theorem Sy {x:Int} (hx:-9223372036854775808≤x∧x≤9223372036854775807) :
  IntKind.u64.wrap ((yaf 64 (IntKind.u64.wrap (IntKind.u64.wrap x*2)) ^^^ yaf 64 (IntKind.u64.wrap (x.fdiv 9223372036854775808))).toNat:Int)=(zz x:Int):=by
 rw [wrap64 (x:=((BitVec.toNat _:Nat):Int))]
 have h64:∀ b:BitVec 64,((b.toNat:Nat):Int)%18446744073709551616=(b.toNat:Int):=fun b=>Int.emod_eq_of_lt (yaU _) (by have:=b.isLt;omega)
 rw [h64,wrap64,wrap64,wrap64,yba _ (by omega)]
 unfold zz
 by_cases h:0≤x
 ·rw [if_pos h,show x/9223372036854775808=0 by omega,show x%18446744073709551616*2%18446744073709551616=2*x by omega]
  simp only [Int.zero_emod,BitVec.ofInt_ofNat,BitVec.xor_zero,ybz]
  omega
 ·rw [if_neg h,show x/9223372036854775808=-1 by omega,show x%18446744073709551616*2%18446744073709551616=2*x+18446744073709551616 by omega,show (-1:Int)%18446744073709551616=18446744073709551615 from rfl]
  have e1:yaf 64 18446744073709551615=BitVec.allOnes 64:=ybZ (by rw [ybz,BitVec.toNat_allOnes];omega)
  rw [e1,BitVec.xor_allOnes,BitVec.toNat_not,ybz]
  omega
theorem abU {n:Nat} (h:n<18446744073709551616):IntKind.u8.wrap ((yaf 8 (IntKind.u8.wrap (n:Int)) ||| yaf 8 128).toNat:Int)=((UInt8.ofNat (n%128+128)).toNat:Int):=by
 rw [Js,Js]
 have h8:∀ b:BitVec 8,((b.toNat:Nat):Int)%256=(b.toNat:Int):=fun b=>Int.emod_eq_of_lt (yaU _) (by have:=b.isLt;omega)
 rw [h8]
 have key:∀ m:Fin 256,(yaT 8 m.val ||| 128#8).toNat=m.val%128+128:=by decide +kernel
 have:=key ⟨n%256,by omega⟩
 simp only at this
 have e:yaf 8 ((n:Int)%256)=yaT 8 (n%256):=by
  rw [show ((n:Int)%256)=((n%256:Nat):Int) by omega,ybY]
 rw [e,show yaf 8 128=128#8 by rfl,this,UInt8.toNat_ofNat']
 omega
theorem Og {n:Nat} (h:n<128):IntKind.u8.wrap (n:Int)=((UInt8.ofNat n).toNat:Int):=by
 rw [Js,UInt8.toNat_ofNat'];omega
theorem Ka:∀ (k n:Nat),n<128 ^ (k+1)→(vi n).length≤k+1
 | 0,n,h=>by rw [Od (by omega)];simp
 | k+1,n,h=>by
  by_cases hn:n<128
  ·rw [Od hn];simp
  ·rw [Wb hn,yav]
   have:=Ka k (n/128) (by rw [Nat.div_lt_iff_lt_mul (by omega),←Nat.pow_succ];exact h)
   omega
theorem Oe {n:Nat} (h:n<18446744073709551616):(vi n).length≤10:=Ka 9 n (by omega)
theorem yA {x:Int} (hx:-9223372036854775808≤x∧x≤9223372036854775807):(nB x).length≤10:=Oe (Ns hx)
open Go Go.Fx Go.Proofs
set_option maxRecDepth 20000
theorem afV {a b:Int} {K:V→Prop}:cQ .shl .u64 a b K=(0≤b∧K (.v (.int .u64 (IntKind.u64.wrap (a*2 ^ (min b.toNat 64)))))):=rfl
theorem afU {a b:Int} {K:V→Prop}:cQ .shr .u64 a b K=(0≤b∧K (.v (.int .u64 (a.fdiv (2 ^ (min b.toNat 64)))))):=rfl
theorem sri {a b:Int} {K:V→Prop}:cQ .shr .i64 a b K=(0≤b∧K (.v (.int .i64 (a.fdiv (2 ^ (min b.toNat 64)))))):=rfl
theorem afP {a c:Int} {K:V→Prop} {x:Bool}:cM .xor x .u64 a c K=K (.v (.int .u64 (IntKind.u64.wrap ((yaf 64 a ^^^ yaf 64 c).toNat:Int)))):=rfl
theorem or8 {a c:Int} {K:V→Prop} {x:Bool}:cM .or x .u8 a c K=K (.v (.int .u8 (IntKind.u8.wrap ((yaf 8 a ||| yaf 8 c).toNat:Int)))):=rfl
theorem p1:(2:Int) ^ (min (1:Int).toNat 64)=2:=rfl
theorem p63:(2:Int) ^ (min (63:Int).toNat 64)=9223372036854775808:=rfl
theorem p7:(2:Int) ^ (min (7:Int).toNat 64)=128:=rfl
theorem Qd {fx:List Nat} {f:(St→Prop)→St→Prop} {s s0:St} (hgh:eB fx s s0) {G:Type} (pat:G→St) (I:G→Prop) (μ:G→Nat) (g:G) (h0:I g) (h1:leS fx s0 (pat g))
  (h:∀ g,I g→∀ N:St→Prop,(∀ s' g',I g'→μ g'<μ g→leS fx s' (pat g')→N s')→f N (pat g)):yE fx f s :=
 fL hgh pat I μ g h0 h1 fun g hg=>h g hg _ fun s' g' a b c=>⟨g',⟨a,b⟩,c⟩
theorem adR {n:Nat}:((n:Int).fdiv 128)=((n/128:Nat):Int):=by rw [yba _ (by omega)];rfl
structure VI (x:Nat) (g:Bs × Nat):Prop where
 e:vi x=g.1++vi g.2
 lt:g.2<18446744073709551616
 len:g.1.length≤10
theorem VI.next {x:Nat} {L:Bs} {n:Nat} (h:VI x (L,n)) (hx:x<18446744073709551616) (hn:¬n<128):VI x (L++[UInt8.ofNat (n%128+128)],n/128):=by
 have he:=h.e
 have hl:=Oe hx
 have:=h.lt
 simp only at he this
 rw [Wb hn] at he
 refine ⟨by simp only;rw [he];simp,by simp only;omega,?_⟩
 rw [he] at hl
 simp only [yah,yav,yaB] at hl ⊢
 omega
set_option maxHeartbeats 1000000 in
theorem Pw (x:Int) (hx:-9223372036854775808≤x∧x≤9223372036854775807):Ok 102 [.i x] (IsA (.sl 0 0 (nB x).length) [.arr 1 ((nB x).map by1)]):=by
 refine ok_of lw102 (by simp) ?_
 unfold c102
 simp -implicitDefEqProofs only [rX,aA,↓reduceIte,Nat.reduceEqDiff,reduceCtorEq,aQ,aK,↓afV,↓sri,↓afP,p1,p63,Sy hx]
 refine ⟨by omega,by omega,?_⟩
 refine Qd (.virt 1 1 (by decide) (.nilE 4 0 rfl (.refl _))) (fun g:Bs × Nat=>(⟨[(4,.sl 0 0 g.1.length),(3,n64 g.2)],[.arr 1 (g.1.map by1)],0⟩:St)) (VI (zz x)) (fun g=>g.2) ([],zz x) ⟨rfl,Ns hx,by simp⟩ ?_ ?_
 ·exact ⟨by simp -implicitDefEqProofs only [rX,↓reduceIte,Nat.reduceEqDiff,leE],bT _,trivial,by simp -implicitDefEqProofs only [rX,aB,wfE,wfV],by simp -implicitDefEqProofs only [wfB]⟩
 rintro ⟨L,n⟩ hI N hN
 have hlt:=hI.lt
 have hlen:=hI.len
 have he:=hI.e
 simp only at hlt hlen he
 have tk:yai L.length (yak by1 L)=yak by1 L:=yae (by rw [yao];exact yab _)
 simp only [c102l0]
 simp -implicitDefEqProofs only [rX,↓rY,aA,cells?,↓reduceIte,Nat.reduceEqDiff,Nat.reduceAdd,reduceCtorEq,aC,cI,bU,bD,kill,St.kill,isD,Nat.reduceLT,Nat.reduceLeDiff,aY,aQ,yar]
 cases h1:decide ((n:Int)>127) with
 | true =>
  have h1':=of_decide_eq_true h1
  simp -implicitDefEqProofs only [rX,↓rY,kill,St.kill,isD,↓or8,↓afU,p7,abU hlt,adR,tk]
  refine ⟨by omega,by omega,hN _ (L++[UInt8.ofNat (n%128+128)],n/128) (hI.next (Ns hx) (by omega)) (by simp only;omega) ?_⟩
  exact ⟨by simp -implicitDefEqProofs only [rX,↓reduceIte,Nat.reduceEqDiff,leE],⟨by rw [yap];exact bA _,trivial⟩,trivial,by simp -implicitDefEqProofs only [rX,aB,wfE,wfV],by simp -implicitDefEqProofs only [wfB]⟩
 | false =>
  have h1':=of_decide_eq_false h1
  have hv:nB x=L++[UInt8.ofNat n]:=by unfold nB;rw [he,Od (by omega)]
  simp -implicitDefEqProofs only [↓rY,Og (show n<128 by omega),tk]
  refine ⟨by omega,?_⟩
  simp -implicitDefEqProofs only [rX,↓reduceIte,aT,aV,leH,leB,aD,aB,wfB,wfV,Nat.reduceLeDiff,cO,hv,yap]
  rfl
set_option maxRecDepth 20000
theorem Hp {t:Bs} (h:t.length≤140737488355000):(tB t).length≤t.length+10:=by
 have:=yA (x:=(t.length:Int)) (by omega)
 simp only [tB,yah];omega
set_option maxHeartbeats 1000000 in
theorem agN (t:Bs) (ht:t.length≤140737488355000):Ok 98 [sv t] (IsA (.sl 1 0 (tB t).length) [.dead,.arr 1 ((tB t).map by1)]):=by
 refine ok_of lw98 (by simp) ?_
 unfold c98
 simp -implicitDefEqProofs only [rX,↓rY,aA,↓reduceIte,reduceCtorEq,mQ,aK]
 have hn:-9223372036854775808≤((t.length:Nat):Int)∧((t.length:Nat):Int)≤9223372036854775807:=by omega
 have hl:=yA hn
 have tk:yai (nB t.length).length (yak by1 (nB t.length))=yak by1 (nB t.length):=yae (by rw [yao];exact yab _)
 refine eW _ _ (.sl 1 0 (nB t.length).length) _ [.arr 1 ((nB t.length).map by1)] (Pw (t.length:Int) hn) (by simp [aF,aJ,aW,bP,wkL,wk,wkR,mQ]) (by simp [ren]) (by simp [cA]) trivial ?_
 simp -implicitDefEqProofs only [rX,↓rY,↓reduceIte,Nat.reduceEqDiff,Nat.reduceAdd,reduceCtorEq,aT,aV,leH,leB,aD,aB,wfB,wfV,bU,bD,kill,St.kill,Nat.reduceLeDiff,aY,aQ,yar,Xs,cO,tk,tB,yap]
 omega
def i1 (x:Int):List V:=[.i x]
theorem aiG {x:Int}:(i1 x)[0]?=some (.i x):=rfl
abbrev bI (l:List Int):V:=.bro 1 (l.map i1)
def In64 (l:List Int):Prop:=∀ x∈l,-9223372036854775808≤x∧x≤9223372036854775807
def lBk (l:List Int) (k:Nat):Bs:=nB l.length++((l.take k).map nB).flatten
theorem Qk {l:List Int}:lBk l 0=nB l.length:=by simp [lBk]
theorem Qj {l:List Int} {k:Nat} (h:k<l.length):lBk l (k+1)=lBk l k++nB l[k]:=by
 unfold lBk
 rw [←ycf h,yap,ybA,yaF]
 simp
theorem Lf {l:List Int}:lBk l l.length=lB l:=by simp [lBk,lB]
theorem Dk {l:List Int} (hl:In64 l) (hn:l.length≤1000000000000):∀ {k:Nat},k≤l.length→(lBk l k).length≤10+10*k
 | 0,_=>by rw [Qk];exact yA (by omega)
 | k+1,h=>by
  rw [Qj h,yah]
  have:=Dk hl hn (k:=k) (by omega)
  have:=yA (hl _ (yat h))
  omega
theorem Ql {l:List Int} (hl:In64 l) (hn:l.length≤1000000000000):(lB l).length≤10+10*l.length:=by rw [←Lf];exact Dk hl hn (yab _)
attribute [irreducible] lBk
set_option maxHeartbeats 1000000 in
theorem acS (l:List Int) (hl:In64 l) (hn:l.length≤1000000000000):Ok 101 [bI l,.clo 102 []] (IsA (.sl 0 0 (lB l).length) [.arr 1 ((lB l).map by1)]):=by
 refine ok_of lw101 (by simp) ?_
 unfold c101
 simp -implicitDefEqProofs only [rX,↓rY,aA,↓reduceIte,reduceCtorEq,aK]
 intro _
 refine eW _ _ (.sl 0 0 (nB l.length).length) _ [.arr 1 ((nB l.length).map by1)] (Pw (l.length:Int) (by omega)) (by simp [aF,aJ,aW,bP,wkL,wk,wkR,mQ]) (by simp [ren]) (by simp [cA]) trivial ?_
 simp -implicitDefEqProofs only [rX,↓rY,aA,↓reduceIte,reduceCtorEq,aQ]
 intro _
 refine dB (fun k:Nat=>(⟨[(13,.i k),(12,.i l.length),(11,bI l),(5,.sl 0 0 (lBk l k).length),(1,.clo 102 [])],[.arr 1 ((lBk l k).map by1)],0⟩:St)) (fun k=>k≤l.length) (fun k=>l.length-k) 0 (yaq _) ?_ ?_
 ·exact ⟨by simp -implicitDefEqProofs only [rX,↓reduceIte,Nat.reduceEqDiff,reduceCtorEq,leE,Qk];rfl,⟨by rw [Qk];exact bA _,trivial⟩,trivial,by simp -implicitDefEqProofs only [rX,aB,wfE,wfV,wfL],by simp -implicitDefEqProofs only [wfB]⟩
 intro k hk N hN
 have hbl:=Dk hl hn hk
 have tk:yai (lBk l k).length (yak by1 (lBk l k))=yak by1 (lBk l k):=yae (by rw [yao];exact yab _)
 simp only [c101l0]
 simp -implicitDefEqProofs only [rX,↓rY,↓reduceIte,Nat.reduceEqDiff,yac,yaa]
 cases h1:decide ((k:Int)<(l.length:Int)) with
 | true =>
  have h1':=of_decide_eq_true h1
  have hk':k<l.length:=by omega
  have hx:=hl _ (yat hk')
  have hb2:=yA hx
  simp -implicitDefEqProofs only [↓rY,yal hk',aiG]
  refine ⟨by omega,hk',?_⟩
  refine eW _ _ (.sl 2 0 (nB l[k]).length) _ [.arr 1 ((nB l[k]).map by1)] (Pw l[k] hx) (by simp [aF,aJ,aW,bP,wkL,wk,wkR,mQ]) (by simp [ren]) (by simp [cA]) trivial ?_
  have tk2:yai (nB l[k]).length (yak by1 (nB l[k]))=yak by1 (nB l[k]):=yae (by rw [yao];exact yab _)
  simp -implicitDefEqProofs only [rX,↓rY,aA,↓reduceIte,Nat.reduceEqDiff,Nat.reduceAdd,reduceCtorEq,bU,bD,kill,bN,St.kill,aY,aQ,yar,tk,tk2]
  refine ⟨.inr trivial,by omega,⟨by simp only [lo];omega,by simp only [Fx.hi];omega⟩,hN _ (k+1) (by omega) (by omega) ?_⟩
  exact ⟨by simp -implicitDefEqProofs only [rX,↓reduceIte,Nat.reduceEqDiff,leE,Qj hk'];rfl,⟨by rw [Qj hk',yap];exact bA _,trivial⟩,trivial,by simp -implicitDefEqProofs only [rX,aB,wfE,wfV,wfL],by simp -implicitDefEqProofs only [wfB]⟩
 | false =>
  have h1':=of_decide_eq_false h1
  have:k=l.length:=by omega
  subst this
  simp -implicitDefEqProofs only [rX,↓rY,↓reduceIte,aT,aV,leH,leB,aD,aB,wfB,wfV,Nat.reduceLeDiff,cO,Lf]
theorem abW (l:List Int) (hl:In64 l) (hn:l.length≤1000000000000):Ok 72 [bI l] (IsA (.sl 0 0 (lB l).length) [.arr 1 ((lB l).map by1)]):=by
 refine ok_of lw72 (by simp) ?_
 unfold c72
 simp -implicitDefEqProofs only [rX,aA,↓reduceIte,reduceCtorEq,aK]
 refine eW _ _ (.sl 0 0 (lB l).length) _ [.arr 1 ((lB l).map by1)] (acS l hl hn) (by simp [aF,aJ,aW,bP,wkL,wk,wkR,wkB]) (by simp [ren]) (by simp [cA]) trivial ?_
 simp -implicitDefEqProofs only [rX,↓reduceIte,aT,aV,leH,leB,aD,aB,wfB,wfV,Nat.reduceLeDiff,cO]
set_option maxRecDepth 20000
def sqL:LCode→LCode
 | .seq a _=>a
 | x=>x
def sqR:LCode→LCode
 | .seq _ b=>b
 | x=>x
def s1 (t:Bs):List V:=[sv t]
theorem agG {t:Bs}:(s1 t)[0]?=some (sv t):=rfl
abbrev bS (l:List Bs):V:=.bro 1 (l.map s1)
def inK (k:Int) (l:List Bs) (n:Nat):Bs:=UInt8.ofNat (k%256).toNat::((l.take n).map tB).flatten
theorem Qq {k:Int} {l:List Bs} {n:Nat} (h:n<l.length):inK k l (n+1)=inK k l n++tB l[n]:=by
 unfold inK
 rw [←ycf h,yap,ybA,yaL]
 simp
theorem Lg {k:Int} {l:List Bs}:inK k l l.length=inB k l:=by simp [inK,inB]
theorem adL {k:Int} {l:List Bs}:inK k l 0=[UInt8.ofNat (k%256).toNat]:=by simp [inK]
theorem Qs {k:Int} {l:List Bs}:∀ (d n:Nat),n+d=l.length→(inK k l n).length≤(inB k l).length
 | 0,n,h=>by rw [←Lg,←h];exact yab _
 | d+1,n,h=>by
  refine ybQ ?_ (Qs d (n+1) (by omega))
  rw [Qq (by omega),yah];omega
theorem Qr {k:Int} {l:List Bs} {n:Nat} (h:n<l.length):(inK k l n).length+(tB l[n]).length≤(inB k l).length∧l[n].length≤(inB k l).length:=by
 have:=Qs (k:=k) (l:=l) (l.length-(n+1)) (n+1) (by omega)
 rw [Qq h,yah] at this
 refine ⟨this,ybQ ?_ (ybQ (Nat.le_add_left _ _) this)⟩
 simp [tB]
attribute [irreducible] inK
theorem yO {k:Int} {l:List Bs}:(lC k l).length=16:=by unfold lC;rw [yas,Cu];rfl
def c70r:LCode:=sqR (sqR c70)
theorem c70_eq:c70=.seq (sqL c70) (.seq (sqL (sqR c70)) c70r):=rfl
theorem adU {k:Int}:IntKind.u8.wrap k=((UInt8.ofNat (k%256).toNat).toNat:Int):=by rw [Js,UInt8.toNat_ofNat'];omega
set_option maxHeartbeats 2000000 in
theorem aeH (k:Int) (l:List Bs) (hB:(inB k l).length≤1000000000000) (S:Stm) (hS:Rp S (inK k l 0)) (els:List (List V)) (e:Env) (b:Nat) (h1:get e 1=bS l) (h4:get e 4=.ptr 0 0 0) (h5:get e 5=.ptr 2 0 0) :
  aw (cxN Tryz.prog []) c70r (eS [] 0 [hU.cell 4 (some 16)] (Is (.agg (us (lC k l))))) (fun _ _=>False) (eS [] 0 [hU.cell 4 (some 16)] (Is (.agg (us (lC k l))))) ⟨e,[.var (us z16),.arr 1 els,.var S.enc],b⟩:=by
 unfold c70r
 simp -implicitDefEqProofs only [rX,↓rY,c70,sqR,aA,↓reduceIte,Nat.reduceAdd,aQ,h1]
 intro hml
 simp only [maxLen] at hml
 refine dB (fun g:Nat × Stm=>(⟨[(17,.i g.1),(16,.i l.length),(15,bS l),(5,.ptr 2 0 0),(4,.ptr 0 0 0)],[.var (us z16),.dead,.var (sC g.2.st g.2.blk g.2.n)],3⟩:St)) (fun g=>g.1≤l.length∧Rp g.2 (inK k l g.1)) (fun g=>l.length-g.1) (0,S) ⟨yaq _,hS⟩ ?_ ?_
 ·exact ⟨by simp -implicitDefEqProofs only [rX,↓reduceIte,Nat.reduceEqDiff,leE,h4,h5];rfl,⟨bA _,trivial,bA _,trivial⟩,trivial,by simp -implicitDefEqProofs only [rX,aB,wfE,wfV],by simp -implicitDefEqProofs only [rX,wfB,i5,gT]⟩
 rintro ⟨n,S⟩ ⟨hn,hS⟩ N hN
 simp only at hn hS
 have hl:=hS.len
 simp only [c70l0]
 simp -implicitDefEqProofs only [rX,↓rY,rdK,↓reduceIte,Nat.reduceEqDiff,Nat.reduceAdd,yac,yaa,aQ]
 cases h1:decide ((n:Int)<(l.length:Int)) with
 | true =>
  have h1':=of_decide_eq_true h1
  have hn':n<l.length:=by omega
  simp -implicitDefEqProofs only [rX,↓rY,yal hn',agG,j3 hl,eK hl]
  have hp:=Qr (k:=k) hn'
  refine ⟨by omega,hn',?_⟩
  refine eW _ _ (.sl 4 0 (tB l[n]).length) _ [.dead,.arr 1 ((tB l[n]).map by1)] (agN l[n] (by omega)) (by simp [aF,aJ,aW,bP,wkL,wk,wkR,mQ]) (by simp [ren]) (by simp [cA]) trivial ?_
  have tk:yai (tB l[n]).length (yak by1 (tB l[n]))=yak by1 (tB l[n]):=yae (by rw [yao];exact yab _)
  simp -implicitDefEqProofs only [rX,↓rY,↓reduceIte,Nat.reduceEqDiff,aQ,tk,iU,Bc]
  refine ⟨.inr trivial,?_⟩
  refine sG _ _ _ (Yj S _ (tB l[n]) hS (by omega)) ⟨⟨(dK _ iM).1,trivial,trivial⟩,(dK _ iM).2,rfl,trivial⟩ (fun g=>by simp only [ren,Stm.enc,vI]) trivial ?_
  intro S' hS'
  have hl':=hS'.len
  simp -implicitDefEqProofs only [rX,↓rY,aA,cells?,splice,↓reduceIte,Nat.reduceEqDiff,Nat.reduceAdd,aQ,Stm.enc,j3 hl',eK hl',Tz,eK hl,xA hl]
  rw [←Qq hn'] at hS'
  refine ⟨⟨by simp only [lo];omega,by simp only [Fx.hi];omega⟩,hN _ (n+1,S') ⟨by simp only;omega,hS'⟩ (by simp only;omega) ?_⟩
  exact ⟨by simp -implicitDefEqProofs only [rX,↓reduceIte,Nat.reduceEqDiff,leE];rfl,⟨bA _,trivial,bA _,trivial⟩,trivial,by simp -implicitDefEqProofs only [rX,aB,wfE,wfV],by simp -implicitDefEqProofs only [rX,wfB,i5,gT]⟩
 | false =>
  have h1':=of_decide_eq_false h1
  have:n=l.length:=by omega
  subst this
  rw [Lg] at hS
  simp -implicitDefEqProofs only [rX,↓rY,j3 hl,eK hl]
  refine aE (agM S _ hS (by omega)) ⟨⟨(dK _ iM).1,trivial⟩,(dK _ iM).2,trivial⟩ (by simp [ren,mI]) trivial ?_
  have tks:(us (sha (inB k l))).take 32=us (sha (inB k l)):=yae (by rw [oY,Cu];exact yab _)
  have dz:(us z32).drop 32=[]:=yaz (by rw [oY,vG];exact yab _)
  simp -implicitDefEqProofs only [rX,↓rY,aA,cells?,splice,↓reduceIte,Nat.reduceEqDiff,Nat.reduceAdd,aC,dN,aT,aV,wfV,Nat.reduceLT,Nat.reduceLeDiff,aY,w32,oY,Lx,Cu,vG,dz]
  have h16:yai 16 (yaJ (yax 0) (us (sha (inB k l))))=us (lC k l):=by rw [show yax 0=0 from rfl,yaS,Tm];rfl
  have l16:=yO (k:=k) (l:=l)
  have dz6:(us z16).drop 16=[]:=yaz (by rw [oY,Ch];exact yab _)
  have tk3:(us (lC k l)).take 16=us (lC k l):=yae (by rw [oY,l16];exact yab _)
  rw [h16,oY,l16,dz6,yan,tk3,Ch]
  exact ⟨⟨⟨by omega,by omega⟩,by omega,by omega⟩,by decide,by decide,rfl,Lx,by omega,by simp,gT,rfl⟩
set_option maxHeartbeats 4000000 in
theorem ahC (k:Int) (l:List Bs) (hB:(inB k l).length≤1000000000000):Ok 70 [.i k,bS l] (Is (.agg (us (lC k l)))):=by
 refine ok_of lw70 (by simp) ?_
 have t73:∀ {S:Stm},Rp S (inK k l 0)→(S.enc).length=73∧(S.enc).take 73=S.enc∧S.enc.all isC=true:=fun {S} h=>⟨eK h.len,j3 h.len,Tz⟩
 have d73:(yak V.v oX.toList).drop 73=[]:=rfl
 have hd:UInt8.ofNat (k%256).toNat::[]=inK k l 0:=adL.symm
 have by0:by1 (UInt8.ofNat (k%256).toNat)=[V.v (.int .u8 ((UInt8.ofNat (k%256).toNat).toNat:Int))]:=rfl
 have bo:bytesOf [[V.v (.int .u8 ((UInt8.ofNat (k%256).toNat).toNat:Int))]]=some (inK k l 0):=by rw [←hd,←by0];exact iU [_]
 have i0:(inK k l 0).length=1:=by rw [←hd];rfl
 have o97:Ok 97 [.agg S0.enc,sv (inK k l 0)] (IsQ (fun S'=>Rp S' (inK k l 0)) (fun S'=>.agg S'.enc) (fun _=>[])):=by
  have:=Yj S0 [] (inK k l 0) rp0 (by rw [i0];decide)
  simpa using this
 rw [c70_eq]
 simp -implicitDefEqProofs only [rX,↓rY,c70,sqL,sqR,aA,cells?,↓reduceIte,Nat.reduceEqDiff,Nat.reduceAdd,reduceCtorEq,aC,cI,isD,Nat.reduceLT,aQ,aK,w16,adU,bo,Bc]
 repeat' first
  | exact aeH k l hB _ (by assumption) _ _ _ rfl rfl rfl
  | refine And.intro ?_ ?_
  | (refine aE agO ⟨trivial,trivial⟩ (by simp only [ren,Stm.enc,vI]) trivial ?_
     simp -implicitDefEqProofs only [rX,↓rY,aA,cells?,↓reduceIte,Nat.reduceEqDiff,Nat.reduceAdd,reduceCtorEq,aC,cI,isD,Nat.reduceLT,aQ,bo,Bc])
  | (refine sG _ _ _ o97 ⟨⟨(dK _ iM).1,trivial,trivial⟩,(dK _ iM).2,rfl,trivial⟩ (fun g=>by simp only [ren,Stm.enc,vI]) trivial ?_
     intro S hS
     simp -implicitDefEqProofs only [rX,↓rY,aA,cells?,splice,↓reduceIte,Nat.reduceEqDiff,Nat.reduceAdd,aC,aQ,Nu,d73,(t73 hS).1,(t73 hS).2.1,(t73 hS).2.2])
set_option maxRecDepth 20000
set_option maxRecDepth 20000
theorem cal {f:FuncId} {fn:Func} (h:Tryz.prog.funcs[f]?=some fn) (h1:(fn.name == "runtime.NumGoroutine")=false) (h2:fn.body.isNone=false):iA Tryz.prog f:=⟨fn,h,h1,h2⟩
def s1L (l:List Bs):List V:=[.ro 1 (l.map s1)]
theorem We {l:List Bs}:(s1L l)[0]?=some (.ro 1 (l.map s1)):=rfl
set_option maxHeartbeats 1000000 in
theorem adO (w:World):Calls Tryz.prog 100 #[.slice none 0 0,.int .i64 0] w fun e w'=>e=.returned (.slice none 0 0)∧w'=w:=by
 go_enter Tryz.func100,Tryz.ntmps100
 go_wp2
 go_ret
 exact ⟨rfl,rfl⟩
set_option maxHeartbeats 1000000 in
theorem adN (n:Nat) (h0:0<n) (hn:n≤4398046511104) (w:World):Calls Tryz.prog 100 #[.slice none 0 0,.int .i64 n] w fun e w'=>∃ G row,n≤G∧G≤9223372036854775807∧row.size=G∧e=.returned (.slice (some ⟨w.heap.size,0,none⟩) 0 G)∧w'=w.drew.alloc (.cells row 9):=by
 have hi0:Tryz.prog.info? 9=some Tryz.t9:=by kernel_rfl
 have hz0:Tryz.t9.zero=some (.string ⟨#[]⟩):=by kernel_rfl
 have hs:Tryz.t9.size=1:=by kernel_rfl
 have hb:Tryz.t9.bytes=16:=by kernel_rfl
 have hold:(Builtin.firstCells Tryz.t9.size 0 (.slice none 0 0)).run Tryz.prog w.drew=.ok ([]:List Value).toArray w.drew:=run_firstCells_none w.drew _ 0 0 0
 have hrz:∀ ty,_:=fun ty=>Lib.run_append_grow_zeros w 93 3 ty 9 Tryz.t9 _ .i64 .i64 Tryz.underlying93 Tryz.underlying3 hi0 hz0 none 0 0 [] hold n (by omega) (by omega) (by omega) (by omega) (by rw [hb];omega) (by rw [hb];exact growslice_fits (by omega) (by omega))
 simp only [yay] at hrz
 obtain ⟨G,hG⟩:∃ G,G=grownCap w n 0 9:=⟨_,rfl⟩
 have hGn:n≤G:=by rw [hG];exact grownCap_ge w _ _ _
 have hG63:G≤9223372036854775807:=by
  have:=grownCap_le_maxLen w n 0 9 (by unfold maxLen;omega)
  rw [←hG] at this
  unfold maxLen at this
  omega
 rw [←hG] at hrz
 generalize hrow:(([]:List Value).toArray++Builtin.zeroCells (Value.string ⟨#[]⟩).cells n++Builtin.zeroCells (Value.string ⟨#[]⟩).cells (G-n))=row at hrz
 have hsz:row.size=G:=by
  rw [←hrow]
  simp [Builtin.zeroCells,Value.cells]
  omega
 clear hold hG hrow
 have h1:¬((n:Int)<0):=by omega
 have h4:(n:Int)-(0-0)>0:=by omega
 have e4:(n:Int)-(0-0)=n:=by omega
 go_enter Tryz.func100,Tryz.ntmps100
 go_wp2_with (at_builtin;refine Lib.wpList_append_run _ rfl _ _ _ _ rfl _ _ rfl rfl _ _ (hrz _) ?_)
 all_goals (go_ret;exact ⟨G,hGn,hG63,row,hsz,rfl,rfl⟩)
theorem acT (n:Nat) (hn:n≤4398046511104):Ok 100 [.nil,.i n] (IsA (.sl 0 0 0) [.arr 1 []]):=by
 refine ⟨cal Tryz.func100 (by kernel_rfl) (by kernel_rfl),?_⟩
 intro ρ X w vals hr ha
 match vals,ha with
 | [v0,v1],⟨h0,h1,_⟩ =>
 have h0':v0=.slice none 0 0:=h0
 have h1':v1=.int .i64 n:=h1
 subst h0' h1'
 have hno:∀ k,(ρ k).real=false:=fun k=>hr.out k (yaq _)
 have hown:∀ b,¬Own ρ b:=by
  rintro b ⟨k,hk,_⟩
  rw [hno k] at hk;cases hk
 rcases Nat.eq_zero_or_pos n with rfl|hp
 ·refine (adO w).mono ?_
  rintro e w' ⟨rfl,rfl⟩
  have hno':∀ k,(({ ρ 0 with sz:=1 }:Loc) |> fun L=>if k=0 then L else ρ k).real=false:=by
   intro k
   show (if k=0 then _ else ρ k:Loc).real=false
   split
   ·exact hno 0
   ·exact hno k
  refine ⟨_,.sl 0 0 0,[.arr 1 []],fun k=>if k=0 then { ρ 0 with sz:=1 } else ρ k,rfl,⟨⟨rfl,rfl⟩,yaq _⟩,⟨rfl,rfl,rfl,yab _,fun b hb ho=>⟨rfl,?_⟩⟩,⟨fun j k _ h=>?_,fun k _=>hno' k,fun k b hb=>?_,?_,fun k h=>?_,hr.xlt⟩,⟨0,yab _,yaq _,.inl ⟨rfl,_,rfl⟩⟩,fun k hk=>absurd hk (Nat.not_lt_zero _)⟩
  ·rintro ⟨k,hk,_⟩
   have:=hno' k
   simp only at this
   rw [this] at hk;cases hk
  ·have:=hno' j
   simp only at this
   rw [this] at h;cases h
  ·cases k with
   | succ k=>simp at hb
   | zero =>
    simp only [yau,ybR] at hb
    subst hb
    exact ⟨⟨rfl,by decide⟩,.inl ⟨hno 0,rfl⟩⟩
  ·rintro b ⟨k,hk,_⟩
   have:=hno' k
   simp only at this
   rw [this] at hk;cases hk
  ·have:=hno' k
   simp only at this
   rw [this] at h;cases h
 ·refine (adN n hp hn w).mono ?_
  rintro e w' ⟨G,row,g1,g2,g3,rfl,rfl⟩
  have hsize:(w.drew.alloc (.cells row 9)).heap.size=w.heap.size+1:=Array.size_push ..
  have hold:∀ b,b<w.heap.size→(w.drew.alloc (.cells row 9)).heap[b]?=w.heap[b]?:=by
   intro b hb
   simp only [World.alloc,World.drew]
   rw [Array.getElem?_push_lt (by simpa using hb),Array.getElem?_eq_getElem (by simpa using hb)]
  have hnew:(w.drew.alloc (.cells row 9)).heap[w.heap.size]?=some (.cells row 9 (0,0)):=by
   simp only [World.alloc,World.drew]
   simp
  let L0:Loc:={ ρ 0 with real:=true,blk:=w.heap.size,off:=0,sz:=1,room:=G }
  have hloc:∀ k,(if k=0 then L0 else ρ k:Loc).real=true→k=0:=by
   intro k hk
   by_cases h:k=0
   ·exact h
   ·rw [if_neg h,hno k] at hk;cases hk
  have hfr:Fr ρ w (fun k=>if k=0 then L0 else ρ k) (w.drew.alloc (.cells row 9)):=by
   refine ⟨rfl,rfl,rfl,by omega,fun b hb ho=>⟨hold b hb,?_⟩⟩
   rintro ⟨k,hk,hb2⟩
   have:=hloc k hk
   subst this
   simp only [if_pos] at hb2
   have:w.heap.size=b:=hb2
   omega
  refine ⟨_,.sl 0 0 0,[.arr 1 []],fun k=>if k=0 then L0 else ρ k,rfl,⟨⟨rfl,rfl⟩,yaq _⟩,hfr,⟨fun j k hjk h1 h2=>?_,fun k hk=>?_,fun k b hb=>?_,?_,fun k h=>?_,hr.xfr hfr⟩,⟨G,yaq _,by unfold maxLen;omega,.inr ⟨rfl,by simp [L0],by simp [L0]⟩⟩,fun k hk=>absurd hk (Nat.not_lt_zero _)⟩
  ·exact absurd ((hloc j h1).trans (hloc k h2).symm) hjk
  ·have:k≠0:=by simp at hk;omega
   simp only [if_neg this]
   exact hno k
  ·cases k with
   | succ k=>simp at hb
   | zero =>
    simp only [yau,ybR] at hb
    subst hb
    exact ⟨⟨rfl,by decide⟩,.inr ⟨rfl,row,9,hnew,g3,by simp [L0],trivial⟩⟩
  ·rintro b ⟨k,hk,hb2⟩ hX
   have:=hloc k hk
   subst this
   simp only [if_pos] at hb2
   have h3:w.heap.size=b:=hb2
   have:=hr.xlt.1 b hX
   omega
  ·have:=hloc k h
   subst this
   show w.heap.size<_
   omega
theorem Bw {L:List (List Bs)} {k:Nat} (h:k<L.length):(L.take (k+1)).flatten=(L.take k).flatten++L[k]:=by
 rw [List.take_add_one,yal h,ybA];simp
theorem vS {L:List (List Bs)} {k:Nat}:(L.take k).flatten.length≤L.flatten.length:=by
 conv=>rhs;rw [←yce k L,ybA,yah]
 omega
theorem ahB (L:List (List Bs)) (hL:L.flatten.length≤4398046511104):Ok 71 [.bro 1 (L.map s1L)] (IsA (.sl 0 0 L.flatten.length) [.arr 1 (L.flatten.map s1)]):=by
 refine ok_of lw71 (by simp) ?_
 unfold c71
 simp -implicitDefEqProofs only [rX,↓rY,aA,↓reduceIte,reduceCtorEq,aQ,aK]
 intro hm
 refine aU (fun k:Nat=>⟨[(11,.i k),(10,.i L.length),(9,.bro 1 (L.map s1L)),(3,.i (L.take k).flatten.length),(0,.bro 1 (L.map s1L))],[],0⟩) (fun k=>k≤L.length) (fun k=>L.length-k) 0 (by omega) ?_ ?_
 ·simp -implicitDefEqProofs only [rX,↓reduceIte,Nat.reduceEqDiff,reduceCtorEq,leE,leH,aD,wfE,wfB,wfV,yaj,List.flatten_nil]
 rintro k hk
 have hle:=vS (L:=L) (k:=k)
 unfold c71l0
 simp -implicitDefEqProofs only [rX,↓rY,aA,↓reduceIte,Nat.reduceEqDiff,reduceCtorEq,leE,leH,aD,wfE,wfB,wfV,yac,yaa,We]
 simp only [br,decide_eq_true_eq,decide_eq_false_iff_not]
 refine ⟨fun h=>?_,fun h=>?_⟩
 ·have hk':k<L.length:=by omega
  have hle2:=vS (L:=L) (k:=k+1)
  have hf:=Bw hk'
  refine ⟨⟨by omega,h⟩,hk',?_⟩
  intro hm2
  have hfl:(L.take (k+1)).flatten.length=(L.take k).flatten.length+L[k].length:=by rw [hf,yah]
  refine ⟨by simp only [lo,hi];omega,fun hneg=>absurd hneg (by omega),fun _=>⟨by simp only [lo,hi,maxLen] at *;omega,k+1,⟨by omega,by omega⟩,?_⟩⟩
  rw [hfl]
  simp
 ·rw [yae (by omega)]
  refine eW [.nil,.i L.flatten.length] (.sl 0 0 0) (.sl 0 0 0) [.arr 1 []] [.arr 1 []] (acT _ hL) ⟨⟨trivial,trivial,trivial⟩,rfl,rfl,trivial⟩ (by simp [ren]) (by simp [cA]) trivial ?_
  simp -implicitDefEqProofs only [rX,↓rY,aA,↓reduceIte,reduceCtorEq,aQ]
  intro hm2
  refine aU (fun k:Nat=>⟨[(27,.i k),(26,.i L.length),(25,.bro 1 (L.map s1L)),(6,.sl 0 0 (L.take k).flatten.length)],[.arr 1 ((L.take k).flatten.map s1)],0⟩) (fun k=>k≤L.length) (fun k=>L.length-k) 0 (by omega) ?_ ?_
  ·simp -implicitDefEqProofs only [rX,↓reduceIte,Nat.reduceEqDiff,leE,leH,leB,aD,aB,wfE,wfB,wfV,yaj,List.flatten_nil]
  rintro k hk
  have hle:=vS (L:=L) (k:=k)
  unfold c71l1
  simp -implicitDefEqProofs only [rX,↓rY,aA,↓reduceIte,Nat.reduceEqDiff,Nat.reduceAdd,aT,aV,leE,leH,leB,aD,aB,wfE,wfB,wfV,bU,bD,kill,St.kill,Nat.reduceLeDiff,yac,yaa,aY,aQ,We,cO]
  simp only [br,decide_eq_true_eq,decide_eq_false_iff_not]
  refine ⟨fun h=>?_,fun h=>?_⟩
  ·have hk':k<L.length:=by omega
   have hle2:=vS (L:=L) (k:=k+1)
   have hf:=Bw hk'
   have hfl:(L.take (k+1)).flatten.length=(L.take k).flatten.length+L[k].length:=by rw [hf,yah]
   refine ⟨⟨by omega,h⟩,hk',by simp,by omega,by simp only [lo,hi,maxLen] at *;omega,k+1,⟨by omega,by omega⟩,?_⟩
   have htk:yai (L.take k).flatten.length ((L.take k).flatten.map s1)=(L.take k).flatten.map s1:=yae (by rw [yao];exact yab _)
   rw [htk,hfl,hf,yap]
   exact ⟨⟨by simp,rfl⟩,rfl⟩
  ·rw [yae (by omega)]
   exact ⟨rfl,rfl⟩
def Mz (fx:List Nat) (v:V) (r:List Nat) (s:St) (K:St→Prop):Prop :=
 match v with
 | .sl k _ _=>Du fx k (blk s.h k) s fun s'=>mY fx r s' K
 | _=>mY fx r s K
theorem Dq {fx:List Nat} {s:St} {K:St→Prop}:mY fx [] s K=K s:=rfl
theorem Dr {fx:List Nat} {x:Nat} {r:List Nat} {e:Env} {h:List Blk} {b:Nat} {K:St→Prop}:mY fx (x::r) ⟨e,h,b⟩ K=Mz fx (get e x) r ⟨e,h,b⟩ K:=rfl
theorem Zk {fx:List Nat} {k i n:Nat} {r:List Nat} {e:Env} {h:List Blk} {b:Nat} {K:St→Prop}:Mz fx (.sl k i n) r ⟨e,h,b⟩ K=Du fx k (blk h k) ⟨e,h,b⟩ fun s'=>mY fx r s' K:=rfl
theorem Zm {fx:List Nat} {k sz:Nat} {els:List (List V)} {e:Env} {h:List Blk} {b:Nat} {K:St→Prop}:Du fx k (.arr sz els) ⟨e,h,b⟩ K=(k∉fx∧K ⟨Dt k sz els e,(h.map (r9 k sz els)).set k .dead,b⟩):=rfl
@[congr] theorem ajA {fx:List Nat} {v v':V} {r:List Nat} {s:St} {K:St→Prop} (q:v=v'):Mz fx v r s K=Mz fx v' r s K:=by rw [q]
@[congr] theorem ajC {fx:List Nat} {k:Nat} {B B':Blk} {s:St} {K:St→Prop} (q:B=B'):Du fx k B s K=Du fx k B' s K:=by rw [q]
@[congr] theorem ajB {fx xs:List Nat} {s s':St} {K:St→Prop} (q:s=s'):mY fx xs s K=mY fx xs s' K:=by rw [q]
theorem rT {cx:Cx} {e:Env} {h:List Blk} {b:Nat} {K:V→St→Prop} {xs:List Nat} {j sz n:Nat} {z:List Value} {ps:List (Nat × Operand)}:aOp cx (.litsf xs j sz n z ps) ⟨e,h,b⟩ K =
  mY (cx.fx++cx.bn) xs ⟨e,h,b⟩ fun s=>cI s.e sz (yad n (z.map .v)) ps fun els=>aC s.h (s.b+j)∧K (.sl (s.b+j) 0 n) { s with h:=s.h.set (s.b+j) (.arr sz els) }:=rfl
theorem Zl {fx:List Nat} {k:Nat} {l:List (List V)} {r:List Nat} {s:St} {K:St→Prop}:Mz fx (.ro k l) r s K=mY fx r s K:=rfl
theorem Iv {fx:List Nat} {l:List V} {r:List Nat} {s:St} {K:St→Prop}:Mz fx (.agg l) r s K=mY fx r s K:=rfl
set_option maxRecDepth 20000
structure Ky where
 party:Int
 serial:Int
 sec:Bs
 fr:Int
 to:Int
def Ky.enc (k:Ky):List V:=[.i k.party,.i k.serial,sv k.sec,.i k.fr,.i k.to]
theorem yJ {k:Ky}:k.enc.length=5:=rfl
theorem r3 {k:Ky}:yai 5 k.enc=k.enc:=rfl
theorem adF {k:Ky}:k.enc.all isC=true:=rfl
abbrev rS (l:List Bs):V:=.ro 1 (l.map s1)
def mP (k:Ky) (tag:Int) (l:List Bs):Bs:=lC tag (k.sec::(l++[k.sec]))
theorem dW {k:Ky} {tag:Int} {l:List Bs}:(mP k tag l).length=16:=yO
def aaL (k:Ky) (l:List Bs):Prop:=(inB 0 (k.sec::(l++[k.sec]))).length≤1000000000000∧l.length≤1000000
theorem Uo {a b:Int} {l:List Bs}:(inB a l).length=(inB b l).length:=rfl
theorem Of {l:Bs} (h:l.length=16):(us l).length=16∧(us l).take 16=us l∧(us l).drop 16=[]:=⟨by rw [oY,h],yae (by rw [oY,h];exact yab _),yaz (by rw [oY,h];exact yab _)⟩
theorem Eo {k n:Nat} {els:List (List V)}:∀ l:List V,(∀ x∈l,∃ u,x=.v u)→r8 k n els l=l
 | [],_=>rfl
 | x::r,h=>by
  obtain ⟨u,rfl⟩:=h x yaO
  show V.v u::r8 k n els r=_
  rw [Eo r fun y hy=>h y (yaP _ hy)]
theorem oO {l:Bs}:∀ x∈us l,∃ u,x=V.v u:=by
 unfold us
 intro x hx
 obtain ⟨b,_,rfl⟩:=yaH.1 hx
 exact ⟨_,rfl⟩
theorem Xo {k n:Nat} {els:List (List V)} {l:Bs}:r8 k n els (us l)=us l:=Eo _ oO
set_option maxHeartbeats 1000000 in
theorem acB (k:Ky) (tag:Int) (l:List Bs) (hS:aaL k l):Ok 40 [.agg k.enc,.i tag,rS l] (Is (.agg (us (mP k tag l)))):=by
 refine ok_of lw40 (by simp) ?_
 unfold c40 Ky.enc
 simp -implicitDefEqProofs only [rX,↓rY,aA,cells?,↓reduceIte,Nat.reduceEqDiff,Nat.reduceAdd,reduceCtorEq,aC,cI,isD,Nat.reduceLT,aY,aQ,aK,w16,rT,Dq,Dr,Zk,Zl,Zm,Dt,nR,r8,r9,Xo]
 have hLf:[[k.sec],l,[k.sec]].flatten=k.sec::(l++[k.sec]):=by simp
 have hll:(k.sec::(l++[k.sec])).length=l.length+2:=by simp
 have h71:=ahB [[k.sec],l,[k.sec]] (by rw [hLf,hll];have:=hS.2;omega)
 rw [hLf] at h71
 refine eW [.bro 1 ([[k.sec],l,[k.sec]].map s1L)] _ (.sl 5 0 (k.sec::(l++[k.sec])).length) _ [.arr 1 ((k.sec::(l++[k.sec])).map s1)] h71 ⟨⟨yab 3,trivial⟩,⟨rfl,rfl⟩,trivial⟩ (by simp [ren]) (by simp [cA]) trivial ?_
 simp -implicitDefEqProofs only [rX,↓reduceIte,Nat.reduceEqDiff]
 refine aE (ahC tag (k.sec::(l++[k.sec])) (by rw [Uo (b:=0)];exact hS.1)) ⟨⟨trivial,by show _≤List.length _;simp,trivial⟩,rfl,⟨rfl,yae (by simp)⟩,trivial⟩ (by simp [ren,mI]) trivial ?_
 obtain ⟨u1,u2,u3⟩:=Of (dW (k:=k) (tag:=tag) (l:=l))
 obtain ⟨z1,z2,z3⟩:=Of Ch
 have hh:lC tag (k.sec::(l++[k.sec]))=mP k tag l:=rfl
 simp -implicitDefEqProofs only [rX,↓rY,cells?,splice,↓reduceIte,Nat.reduceEqDiff,aT,aV,wfV,aY,hh,u1,u2,z1,z3,Lx,gT]
end Go.Fx.E
namespace Go.Fx.P
open Go Go.Fx Go.Fx.E Go.Proofs
structure Arc where
 from_:Int
 to:Int
 cap:Int
 cost:Int
 deriving Inhabited
def Arc.enc (a:Arc):List V:=[.i a.from_,.i a.to,.i a.cap,.i a.cost]
def encI (x:Int):List V:=[.i x]
def u9 (x:Bool):List V:=[.b x]
def net (n:Int) (arcs:List Arc):V:=.agg [.i n,.ro 4 (arcs.map Arc.enc)]
def li (l:List Int):V:=.ro 1 (l.map encI)
structure Fr where
 sent:Int
 cost:Int
 flow:List Int
 price:List Int
 cut:List Int
def Fr.enc (f:Fr):V:=.agg [.i f.sent,.i f.cost,li f.flow,li f.price,li f.cut]
structure sO where
 gate:Int
 origin:Int
 n:Int
 deriving Inhabited,DecidableEq
def sO.enc (a:sO):List V:=[.i a.gate,.i a.origin,.i a.n]
structure aG where
 kind:Int
 num:Int
 cap:Int
 deriving Inhabited,DecidableEq
def aG.enc (a:aG):List V:=[.i a.kind,.i a.num,.i a.cap]
structure Road where
 from_:Int
 to:Int
 cap:Int
 cost:Int
 deriving Inhabited
def Road.enc (a:Road):List V:=[.i a.from_,.i a.to,.i a.cap,.i a.cost]
def sps (l:List aG):V:=.ro 3 (l.map aG.enc)
def rds (l:List Road):V:=.ro 4 (l.map Road.enc)
def bG (ps:List aG) (rs:List Road):V:=.agg [sps ps,rds rs]
abbrev Ok (f:FuncId) (xs:List V) (R:V→List Blk→Prop):Prop:=OkN Tryz.prog f xs [] [] R
theorem ok_of {f:FuncId} {l0 l:LCode} {rs:List hU} {nt:Nat} (hl:rlF Tryz.prog f l0=some (l,rs,nt)) {args:List V} {R:V→List Blk→Prop} (hlen:args.length≤nt)
  (h:aw (cxN Tryz.prog []) l (eS [] 0 rs R) (fun _ _=>False) (eS [] 0 rs R) ⟨aK 0 args,[],0⟩):Ok f args R :=
 eL pol [] hl hlen trivial (fun k hk=>by simp at hk) h
theorem enc_len (a:Arc):a.enc.length=4:=rfl
theorem eV (a:Arc):yai 4 a.enc=a.enc:=rfl
theorem oG (a:Arc):a.enc[0]?=some (.i a.from_):=rfl
theorem oF (a:Arc):a.enc[1]?=some (.i a.to):=rfl
theorem sB (a:Arc):a.enc[2]?=some (.i a.cap):=rfl
theorem uP (a:Arc):a.enc[3]?=some (.i a.cost):=rfl
theorem fG (a:Arc):a.enc.all isC=true:=rfl
theorem Ea (a:Arc):a.enc.all isD=true:=rfl
theorem Jl (a:sO):a.enc.length=3:=rfl
theorem Eh (a:sO):yai 3 a.enc=a.enc:=rfl
theorem aaJ (a:sO):a.enc[0]?=some (.i a.gate):=rfl
theorem aaI (a:sO):a.enc[1]?=some (.i a.origin):=rfl
theorem aaH (a:sO):a.enc[2]?=some (.i a.n):=rfl
theorem Jn (a:sO):a.enc.all isC=true:=rfl
theorem Jm (a:sO):a.enc.all isD=true:=rfl
theorem mN (a:aG):a.enc.length=3:=rfl
theorem iL (a:aG):yai 3 a.enc=a.enc:=rfl
theorem u4 (a:aG):a.enc[0]?=some (.i a.kind):=rfl
theorem Tq (a:aG):a.enc[1]?=some (.i a.num):=rfl
theorem w7 (a:aG):a.enc[2]?=some (.i a.cap):=rfl
theorem nS (a:aG):a.enc.all isC=true:=rfl
theorem Hs (a:aG):a.enc.all isD=true:=rfl
theorem pK (a:Road):a.enc.length=4:=rfl
theorem mS (a:Road):yai 4 a.enc=a.enc:=rfl
theorem Mn (a:Road):a.enc[0]?=some (.i a.from_):=rfl
theorem Mm (a:Road):a.enc[1]?=some (.i a.to):=rfl
theorem Ml (a:Road):a.enc[2]?=some (.i a.cap):=rfl
theorem Mk (a:Road):a.enc[3]?=some (.i a.cost):=rfl
theorem tD (a:Road):a.enc.all isC=true:=rfl
theorem Ii (a:Road):a.enc.all isD=true:=rfl
theorem yY (x:Int):(encI x).length=1:=rfl
theorem cP (x:Int):(encI x)[0]?=some (.i x):=rfl
theorem e7 (x:Int):yaJ 1 (encI x)=[]:=rfl
theorem iS (x:Bool):yaJ 1 (u9 x)=[]:=rfl
theorem yZ (x:Bool):(u9 x).length=1:=rfl
theorem tT (x:Bool):(u9 x)[0]?=some (.b x):=rfl
end Go.Fx.P
namespace Go.Fx.P
open Go Go.Fx Go.Fx.E Go.Proofs
set_option maxRecDepth 20000
theorem Di:∀ h:List Blk,leH h h
 | []=>trivial
 | b::h=>by
  refine ⟨?_,Di h⟩
  cases b<;>simp [leB]
  ·rename_i cs
   induction cs with
   | nil=>trivial
   | cons x cs ih=>exact ⟨by cases x<;>simp [leV],ih⟩
def j0 (x:aG):Prop:=(0≤x.cap∧x.cap≤1073741824)∧((x.kind=1∧0≤x.num∧x.num<64)∨((x.kind=2∨x.kind=3)∧1≤x.num∧x.num≤1073741824))
instance (x:aG):Decidable (j0 x):=by unfold j0;infer_instance
def fT (x:aG):Bool:=decide (j0 x)
theorem Bh {x:aG} {t:Bool}:(t=true↔j0 x)→t=fT x:=fun h=>by
 rw [Bool.eq_iff_iff,h];simp [fT]
theorem agX (x:aG):Ok 86 [.agg x.enc] (Is (.b (fT x))):=by
 refine ok_of lw86 (by simp) ?_
 unfold c86 aG.enc
 simp -implicitDefEqProofs only [rX,↓rY,aA,cells?,↓reduceIte,Nat.reduceEqDiff,aC,aT,aV,wfV,cxN,aK]
 simp only [br,decide_eq_true_eq,decide_eq_false_iff_not,beq_iff_eq,beq_eq_false_iff_ne]
 have e:∀ t:Bool,(t=true↔j0 x)→t=fT x:=fun t=>Bh
 simp only [j0] at e
 repeat' (first|(refine ⟨(0:_),?_⟩)|(refine ⟨by omega,?_⟩)|(refine And.intro ?_ ?_)|(refine (fun _=>?_)))
 all_goals (apply e;first|omega|(simp only [yaM,false_iff,decide_eq_true_eq];omega))
theorem ahF (x:aG):Ok 67 [.agg x.enc] (Is (.b (fT x))):=by
 refine ok_of lw67 (by simp) ?_
 unfold c67 aG.enc
 simp -implicitDefEqProofs only [rX,↓rY,aA,cells?,↓reduceIte,Nat.reduceEqDiff,aC,aT,aV,wfV,cxN,aK]
 simp only [br,decide_eq_true_eq,decide_eq_false_iff_not,beq_iff_eq,beq_eq_false_iff_ne]
 have e:∀ t:Bool,(t=true↔j0 x)→t=fT x:=fun t=>Bh
 simp only [j0] at e
 repeat' (first|(refine ⟨(0:_),?_⟩)|(refine ⟨by omega,?_⟩)|(refine And.intro ?_ ?_)|(refine (fun _=>?_)))
 all_goals (apply e;first|omega|(simp only [yaM,false_iff,decide_eq_true_eq];omega))
def iG (ps:List aG) (r:Road):Prop:=∃ (h1:0≤r.from_∧r.from_<ps.length) (h2:0≤r.to∧r.to<ps.length),r.from_≠r.to∧(0≤r.cap∧r.cap≤1073741824)∧(0≤r.cost∧r.cost≤1048576)∧(ps[r.from_.toNat]'(by omega)).kind≠3∧(ps[r.to.toNat]'(by omega)).kind≠1
open Classical in
noncomputable def mO (ps:List aG) (r:Road):Bool:=decide (iG ps r)
theorem Ma {ps:List aG} {x:Road} {t:Bool}:(t=true↔iG ps x)→t=mO ps x:=fun h=>by
 rw [Bool.eq_iff_iff,h];simp [mO]
theorem ahE (ps:List aG) (rs:List Road) (r:Road):Ok 68 [bG ps rs,.agg r.enc] (Is (.b (mO ps r))):=by
 refine ok_of lw68 (by simp) ?_
 unfold c68 bG sps rds Road.enc
 simp -implicitDefEqProofs only [rX,↓rY,aA,cells?,↓reduceIte,Nat.reduceEqDiff,Nat.reduceAdd,reduceCtorEq,aC,aT,aV,wfV,yac,u4,cxN,aK]
 simp only [br,decide_eq_true_eq,decide_eq_false_iff_not,beq_iff_eq,beq_eq_false_iff_ne]
 have e:∀ t:Bool,(t=true↔iG ps r)→t=mO ps r:=fun t=>Ma
 have bad:¬iG ps r→false=mO ps r:=fun h=>by simp [mO,h]
 repeat' (first|(refine ⟨(0:_),?_⟩)|(refine ⟨by omega,?_⟩)|(refine And.intro ?_ ?_)|(refine (fun _=>?_)))
 all_goals first
  | omega
  | (apply bad;rintro ⟨h1,h2,h3,h4,h5,h6,h7⟩;omega)
  | skip
 ·rename_i h1 h2 h3 h4 h5 h6 h7 h8 h9 h10 h11
  apply e
  simp only [bne_iff_ne] at *
  exact ⟨fun h=>⟨⟨by omega,by omega⟩,⟨by omega,by omega⟩,by omega,⟨by omega,by omega⟩,⟨by omega,by omega⟩,by assumption,h⟩,fun ⟨_,_,_,_,_,_,h⟩=>h⟩
 ·rename_i hb
  apply bad
  rintro ⟨_,_,_,_,_,h,_⟩
  simp only [bne_eq_false_iff_eq] at hb
  exact h hb
end Go.Fx.P
namespace Go.Fx.P
open Go Go.Fx Go.Fx.E Go.Proofs
set_option maxRecDepth 20000
def iE (f:Nat→Int):Nat→Nat→Int
 | 0,_=>0
 | n+1,k=>if f k=0 then iE f n (k+1) else f k
theorem yT {f:Nat→Int}:∀ {n k:Nat},(∀ j,k≤j→j<k+n→f j=0)→iE f n k=0
 | 0,_,_=>rfl
 | n+1,k,h=>by
  rw [iE,if_pos (h k (by omega) (by omega))]
  exact yT fun j h1 h2=>h j (by omega) (by omega)
theorem iR {f:Nat→Int}:∀ {n k i:Nat},k≤i→i<k+n→(∀ j,k≤j→j<i→f j=0)→f i≠0→iE f n k=f i
 | 0,_,_,h1,h2,_,_=>by omega
 | n+1,k,i,h1,h2,h,hi=>by
  rw [iE]
  by_cases hk:k=i
  ·subst hk;rw [if_neg hi]
  ·rw [if_pos (h k (by omega) (by omega))]
   exact iR (by omega) (by omega) (fun j h3 h4=>h j (by omega) h4) hi
def nT (x y:aG):Bool:=x.kind==y.kind&&x.num==y.num
def twB (l:List aG) (x:aG):Bool:=l.any (nT x)
def eAt (ps:List aG) (i:Nat):Int :=
 match ps[i]? with
 | some x=>if fT x=false then 400 else if twB (ps.take i) x then 6 else 0
 | none=>0
theorem Eb {ps:List aG} {i:Nat} (h:i<ps.length):eAt ps i=if fT ps[i]=false then 400 else if twB (ps.take i) ps[i] then 6 else 0:=by
 rw [eAt,yal h]
open Classical in
noncomputable def fI (ps:List aG) (rs:List Road):Int :=
 if 100<ps.length∨1500<rs.length then 2 else if iE (eAt ps) ps.length 0≠0 then iE (eAt ps) ps.length 0 else if ∀ r∈rs,iG ps r then 0 else 400
structure PInv (ps:List aG) (k:Nat):Prop where
 h:∀ j,j<k→eAt ps j=0
structure RInv (ps:List aG) (rs:List Road) (k:Nat):Prop where
 h:∀ j (h:j<rs.length),j<k→iG ps rs[j]
theorem Lp {ps:List aG} {rs:List Road} (h:100<ps.length∨1500<rs.length):fI ps rs=2:=by rw [fI,if_pos h]
theorem Lo {ps:List aG} {rs:List Road} (h1:¬100<ps.length) (h2:¬1500<rs.length) {k:Nat} (hk:k<ps.length) (hv:PInv ps k) (h:eAt ps k≠0):fI ps rs=eAt ps k:=by
 have:iE (eAt ps) ps.length 0=eAt ps k:=iR (by omega) (by omega) (fun j _ hj=>hv.h j hj) h
 rw [fI,if_neg (by omega),this,if_pos h]
theorem Wy {ps:List aG} {rs:List Road} (h1:¬100<ps.length) (h2:¬1500<rs.length) (hv:PInv ps ps.length) {k:Nat} (hk:k<rs.length) (h:¬iG ps rs[k]):fI ps rs=400:=by
 have:iE (eAt ps) ps.length 0=0:=yT fun j _ hj=>hv.h j (by omega)
 rw [fI,if_neg (by omega),this,if_neg (by simp),if_neg]
 intro h3
 exact h (h3 _ (yat hk))
theorem Wz {ps:List aG} {rs:List Road} (h1:¬100<ps.length) (h2:¬1500<rs.length) (hv:PInv ps ps.length) (hr:RInv ps rs rs.length):fI ps rs=0:=by
 have:iE (eAt ps) ps.length 0=0:=yT fun j _ hj=>hv.h j (by omega)
 rw [fI,if_neg (by omega),this,if_neg (by simp),if_pos]
 intro r hr2
 obtain ⟨j,hj,rfl⟩:=ybi hr2
 exact hr.h j hj hj
theorem PInv.next {ps:List aG} {k:Nat} (hv:PInv ps k) (h:eAt ps k=0):PInv ps (k+1):=⟨fun j hj=>by
 by_cases h2:j=k
 ·subst h2;exact h
 ·exact hv.h j (by omega)⟩
theorem RInv.next {ps:List aG} {rs:List Road} {k:Nat} (hv:RInv ps rs k) (hk:k<rs.length) (h:iG ps rs[k]):RInv ps rs (k+1):=⟨fun j hj hjk=>by
 by_cases h2:j=k
 ·subst h2;exact h
 ·exact hv.h j hj (by omega)⟩
def Yx (x:aG):Value:=.agg #[.int .i64 x.kind,.int .i64 x.num,.int .i64 0]
def u7:List aG→Nat→List (Value × V × Nat)
 | [],_=>[]
 | x::l,i=>(Yx x,.b true,i)::u7 l (i+1)
theorem Gl:∀ {l:List aG} {i:Nat} {x:aG},u7 (l++[x]) i=u7 l i++[(Yx x,.b true,i+l.length)]
 | [],i,x=>rfl
 | y::l,i,x=>by
  simp only [yaL,u7,Gl,yav]
  rw [show i+1+l.length=i+(l.length+1) by omega]
abbrev spK:List (Nat × TypeDesc):=[(0,.int .i64),(1,.int .i64),(2,.int .i64)]
theorem tQ:∀ {l:List aG} {i:Nat},o4 spK (u7 l i)
 | [],_=>fun e he=>by cases he
 | x::l,i=>fun e he=>by
  rcases yaW.1 he with rfl|he
  ·exact ⟨_,rfl,rfl,rfl⟩
  ·exact tQ e he
theorem Kz:∀ {l:List aG} {x:aG} {i j:Nat},fA [.int .i64 x.kind,.int .i64 x.num,.int .i64 0] (u7 l i) j=if twB l x then some (j+l.findIdx (nT x),.b true) else none
 | [],x,i,j=>rfl
 | y::l,x,i,j=>by
  simp only [u7,fA,Yx,Kz]
  have key:(List.zip [Value.int .i64 x.kind,.int .i64 x.num,.int .i64 0] (#[Value.int .i64 y.kind,.int .i64 y.num,.int .i64 0]:Array Value).toList).all (fun p=>eqK p.1 p.2)=nT x y:=by
   simp [eqK,nT]
  rw [key]
  cases h:nT x y with
  | true=>simp [twB,h,List.findIdx_cons]
  | false =>
   simp only [twB,List.any_cons,h,Bool.false_or,List.findIdx_cons,yaM,if_false,cond_false]
   by_cases h2:l.any (nT x)=true
   ·simp only [h2,if_true];congr 2;omega
   ·simp only [h2,yaM,if_false]
theorem Lk {h:List Blk}:∀ {l:List aG} {i:Nat},wfL h ((u7 l i).map fun x=>x.2.1)
 | [],_=>by simp [u7,wfL]
 | x::l,i=>by
  simp only [u7,yaC,wfL]
  exact ⟨by simp [wfV],Lk⟩
theorem abX (ps:List aG) (rs:List Road):Ok 65 [bG ps rs] (Is (.i (fI ps rs))):=by
 refine ok_of lw65 (by simp) ?_
 unfold c65 bG sps rds
 simp -implicitDefEqProofs only [rX,↓rY,aA,cells?,↓reduceIte,Nat.reduceEqDiff,Nat.reduceAdd,aC,aT,aV,wfV,cxN,aK]
 simp only [br,decide_eq_true_eq,decide_eq_false_iff_not]
 refine fun hm=>⟨fun h=>(Lp (.inl (by omega))).symm,fun h1 hm2=>⟨fun h=>(Lp (.inr (by omega))).symm,fun h2=>?_⟩⟩
 intro _
 refine aU (fun k:Nat=>⟨[(22,.i k),(21,.i ps.length),(20,.ro 3 (ps.map aG.enc)),(3,.mp 1),(1,.ptr 0 0 0)],[.var [.ro 3 (ps.map aG.enc),.ro 4 (rs.map Road.enc)],.map (u7 (ps.take k) 0) k],0⟩) (fun k=>k≤ps.length∧PInv ps k) (fun k=>ps.length-k) 0 ⟨by omega,⟨by simp⟩⟩ ?_ ?_
 ·simp -implicitDefEqProofs only [rX,↓reduceIte,Nat.reduceEqDiff,leE,leH,leB,leV,bB,aD,aB,wfE,wfB,wfV,wfL,yaj,u7]
 rintro k ⟨hk,hv⟩
 unfold c65l0
 simp -implicitDefEqProofs only [rX,↓rY,aA,cells?,splice,↓reduceIte,Nat.reduceEqDiff,Nat.reduceAdd,aC,yac,mN,iL,nS,yaa]
 simp only [br,decide_eq_true_eq,decide_eq_false_iff_not,yaa]
 refine ⟨fun h=>?_,fun h=>?_⟩
 ·have hk:k<ps.length:=by omega
  refine ⟨⟨by omega,by omega⟩,hk,?_⟩
  refine aE (agX ps[k]) (by simp [aF,aJ,aW,bP,wkL,wk,aG.enc,wkR]) rfl trivial ?_
  have he:=Eb hk
  cases hr:fT ps[k] with
  | false =>
   rw [if_pos hr] at he
   simp -implicitDefEqProofs only [rX,↓rY,aA,↓reduceIte,Nat.reduceAdd,aT,aV,wfV]
   rw [Lo (by omega) (by omega) hk hv (by omega),he]
  | true =>
   rw [if_neg (by simp [hr])] at he
   simp -implicitDefEqProofs only [rX,↓rY,aA,cells?,splice,↓reduceIte,Nat.reduceEqDiff,Nat.reduceAdd,aT,aV,leE,leH,leB,leV,bB,aD,aB,wfE,wfB,wfV,wfL,isC,Nat.reduceLeDiff,aG.enc]
   simp only [Kz]
   refine ⟨rfl,tQ,?_⟩
   cases ht:twB (ps.take k) ps[k] with
   | true =>
    rw [if_pos ht] at he
    have hc:6=fI ps rs:=by rw [Lo (by omega) (by omega) hk hv (by omega),he]
    simp [dY,brV,br,hc]
   | false =>
    rw [if_neg (by simp [ht])] at he
    simp only [yaM,if_false,dY,aA,brV,br,false_implies,true_implies,true_and,f8]
    refine ⟨rfl,tQ,by simp only [lo,hi,maxLen] at *;omega,k+1,⟨⟨by omega,hv.next he⟩,by omega⟩,by omega,?_,Lk⟩
    rw [ybj hk,Gl,yas]
    rw [show 0+min k ps.length=k by omega]
    rfl
 have hk:k=ps.length:=by omega
 subst hk
 intro hm3
 refine aU (fun k:Nat=>⟨[(39,.i k),(38,.i rs.length),(37,.ro 4 (rs.map Road.enc)),(1,.ptr 0 0 0)],[.var [.ro 3 (ps.map aG.enc),.ro 4 (rs.map Road.enc)]],0⟩) (fun k=>k≤rs.length∧RInv ps rs k) (fun k=>rs.length-k) 0 ⟨by omega,⟨by simp⟩⟩ ?_ ?_
 ·simp -implicitDefEqProofs only [rX,↓reduceIte,Nat.reduceEqDiff,leE,leH,leB,leV,bB,aD,aB,wfE,wfB,wfV,wfL,yaj]
 rintro k ⟨hk,hw⟩
 unfold c65l1
 simp -implicitDefEqProofs only [rX,↓rY,aA,cells?,splice,↓reduceIte,Nat.reduceEqDiff,Nat.reduceAdd,aC,aT,aV,leE,leH,leB,leV,bB,aD,aB,wfE,wfB,wfV,wfL,yac,u4,pK,mS,Mn,Mm,Ml,Mk,tD,yaa]
 simp only [br,decide_eq_true_eq,decide_eq_false_iff_not,yaa]
 refine ⟨fun h=>?_,fun h=>?_⟩
 ·have hkl:k<rs.length:=by omega
  have bad:¬iG ps rs[k]→400=fI ps rs:=fun h=>(Wy (by omega) (by omega) hv hkl h).symm
  simp only [beq_iff_eq,beq_eq_false_iff_ne,lo,hi,maxLen] at *
  repeat' (first|(refine ⟨(k+1:_),?_⟩)|(refine ⟨by omega,?_⟩)|(refine And.intro ?_ ?_)|(refine (fun _=>?_)))
  all_goals first
   | omega
   | (apply bad;rintro ⟨⟨_,_⟩,⟨_,_⟩,_,⟨_,_⟩,⟨_,_⟩,_,_⟩;first|omega|contradiction)
   | skip
  exact hw.next hkl ⟨⟨by omega,by omega⟩,⟨by omega,by omega⟩,by assumption,⟨by omega,by omega⟩,⟨by omega,by omega⟩,by assumption,by assumption⟩
 ·have hkl:k=rs.length:=by omega
  subst hkl
  exact (Wz (by omega) (by omega) hv hw).symm
end Go.Fx.P
namespace Go.Fx.P
open Go Go.Fx Go.Fx.E Go.Proofs
set_option maxRecDepth 20000
structure aaK (ps:List aG) (n k:Nat):Prop where
 h:∀ j (hn:n<ps.length) (h:j<ps.length),j<k→nT ps[n] ps[j]=false
theorem Oh {ps:List aG} {n:Nat} (hn:n<ps.length) (h:aaK ps n n):twB (ps.take n) ps[n]=false:=by
 rw [twB,List.any_eq_false]
 intro y hy
 obtain ⟨j,hj,rfl⟩:=ybi hy
 have:=yas (l:=ps) (i:=n)
 rw [ybO,h.h j hn (by omega) (by omega)]
 simp
theorem Tn {ps:List aG} {n k:Nat} (hn:n<ps.length) (hk:k<n) (h:nT ps[n] ps[k]=true):twB (ps.take n) ps[n]=true:=by
 rw [twB,List.any_eq_true]
 have h2:k<(ps.take n).length:=by rw [yas];omega
 exact ⟨(ps.take n)[k],yat h2,by rw [ybO];exact h⟩
theorem ahR (ps:List aG) (rs:List Road):Ok 32 [bG ps rs] (Is (.i (fI ps rs))):=by
 refine ok_of lw32 (by simp) ?_
 unfold c32 bG sps rds
 simp -implicitDefEqProofs only [rX,↓rY,aA,cells?,↓reduceIte,Nat.reduceEqDiff,aC,aT,aV,wfV,cxN,aK]
 simp only [br,decide_eq_true_eq,decide_eq_false_iff_not]
 refine fun hm=>⟨fun h=>(Lp (.inl (by omega))).symm,fun h1 hm2=>⟨fun h=>(Lp (.inr (by omega))).symm,fun h2=>?_⟩⟩
 refine aU (fun k:Nat=>⟨[(3,.i k),(1,.ptr 0 0 0)],[.var [.ro 3 (ps.map aG.enc),.ro 4 (rs.map Road.enc)]],0⟩) (fun k=>k≤ps.length∧PInv ps k) (fun k=>ps.length-k) 0 ⟨by omega,⟨by simp⟩⟩ ?_ ?_
 ·simp -implicitDefEqProofs only [rX,↓reduceIte,Nat.reduceEqDiff,leE,leH,leB,leV,bB,aD,aB,wfE,wfB,wfV,wfL,yaj]
 rintro n ⟨hn,hv⟩
 unfold c32l0
 simp -implicitDefEqProofs only [rX,↓rY,aA,↓reduceIte,Nat.reduceEqDiff,yac,mN,iL,yaa]
 simp only [br,decide_eq_true_eq,decide_eq_false_iff_not,yaa]
 refine fun _=>⟨fun h=>?_,fun h=>?_⟩
 ·have hnl:n<ps.length:=by omega
  refine ⟨⟨by omega,by omega⟩,hnl,?_⟩
  refine aE (ahF ps[n]) (by simp [aF,aJ,aW,bP,wkL,wk,aG.enc,wkR]) rfl trivial ?_
  have he:=Eb hnl
  cases hr:fT ps[n] with
  | false =>
   rw [if_pos hr] at he
   simp -implicitDefEqProofs only [rX,↓rY,aA,↓reduceIte,aT,aV,wfV]
   rw [Lo (by omega) (by omega) hnl hv (by omega),he]
  | true =>
   rw [if_neg (by simp [hr])] at he
   simp -implicitDefEqProofs only [rX,↓rY,aA,↓reduceIte]
   refine aU (fun k:Nat=>⟨[(5,.i k),(3,.i n),(1,.ptr 0 0 0)],[.var [.ro 3 (ps.map aG.enc),.ro 4 (rs.map Road.enc)]],0⟩) (fun k=>k≤n∧aaK ps n k) (fun k=>n-k) 0 ⟨by omega,⟨by simp⟩⟩ ?_ ?_
   ·simp -implicitDefEqProofs only [rX,↓reduceIte,Nat.reduceEqDiff,leE,leH,leB,leV,bB,aD,aB,wfE,wfB,wfV,wfL,yaj]
   rintro k ⟨hk,hw⟩
   unfold c32l1
   simp -implicitDefEqProofs only [rX,↓rY,aA,↓reduceIte,Nat.reduceEqDiff,aT,aV,leE,leH,leB,leV,bB,aD,aB,wfE,wfB,wfV,wfL,yac,u4,Tq,yaa]
   simp only [br,decide_eq_true_eq,decide_eq_false_iff_not,yaa]
   refine ⟨fun h2=>?_,fun h2=>?_⟩
   ·have hkn:k<n:=by omega
    have bad:nT ps[n] ps[k]=true→6=fI ps rs:=fun h3=>by
     rw [if_pos (Tn hnl hkn h3)] at he
     rw [Lo (by omega) (by omega) hnl hv (by omega),he]
    have good:nT ps[n] ps[k]=false→aaK ps n (k+1):=by
     intro h3
     refine ⟨fun j h5 h6 h7=>?_⟩
     by_cases h8:j=k
     ·subst h8;exact h3
     ·exact hw.h j h5 h6 (by omega)
    simp only [nT] at bad good
    simp only [beq_iff_eq,beq_eq_false_iff_ne,ybc,Bool.and_eq_false_iff,lo,hi,maxLen] at *
    repeat' (first|(refine ⟨(k+1:_),?_⟩)|(refine ⟨by omega,?_⟩)|(refine And.intro ?_ ?_)|(refine (fun _=>?_)))
    all_goals first
     | omega
     | (apply bad;exact ⟨by omega,by omega⟩)
     | skip
    all_goals (apply good;first|(left;omega)|(right;omega))
   ·have hkn:k=n:=by omega
    subst hkn
    rw [if_neg (by simp [Oh hnl hw])] at he
    exact ⟨by simp only [lo,hi,maxLen] at *;omega,k+1,⟨⟨by omega,hv.next he⟩,by omega⟩,by omega⟩
 have hk:n=ps.length:=by omega
 subst hk
 refine aU (fun k:Nat=>⟨[(6,.i k),(1,.ptr 0 0 0)],[.var [.ro 3 (ps.map aG.enc),.ro 4 (rs.map Road.enc)]],0⟩) (fun k=>k≤rs.length∧RInv ps rs k) (fun k=>rs.length-k) 0 ⟨by omega,⟨by simp⟩⟩ ?_ ?_
 ·simp -implicitDefEqProofs only [rX,↓reduceIte,Nat.reduceEqDiff,leE,leH,leB,leV,bB,aD,aB,wfE,wfB,wfV,wfL,yaj]
 rintro k ⟨hk,hw⟩
 unfold c32l2
 simp -implicitDefEqProofs only [rX,↓rY,aA,↓reduceIte,Nat.reduceEqDiff,Nat.reduceAdd,aT,aV,wfV,yac,pK,mS,yaa]
 simp only [br,decide_eq_true_eq,decide_eq_false_iff_not,yaa]
 refine fun _=>⟨fun h=>?_,fun h=>?_⟩
 ·have hkl:k<rs.length:=by omega
  refine ⟨⟨by omega,by omega⟩,hkl,?_⟩
  refine aE (ahE ps rs rs[k]) (by simp [bG,sps,rds,aF,aJ,aW,bP,wkL,wk,Road.enc,wkR]) rfl trivial ?_
  cases hs:mO ps rs[k] with
  | true =>
   have hS:iG ps rs[k]:=by simpa [mO] using hs
   simp -implicitDefEqProofs only [rX,↓rY,aA,↓reduceIte,Nat.reduceEqDiff,leE,leH,leB,leV,bB,aD,aB,wfE,wfB,wfV,wfL]
   exact ⟨by simp only [lo,hi,maxLen] at *;omega,k+1,⟨⟨by omega,hw.next hkl hS⟩,by omega⟩,by omega⟩
  | false =>
   have hS:¬iG ps rs[k]:=by simpa [mO] using hs
   simp -implicitDefEqProofs only [rX,↓rY,aA,↓reduceIte,aT,aV,wfV]
   exact (Wy (by omega) (by omega) hv hkl hS).symm
 ·have hkl:k=rs.length:=by omega
  subst hkl
  exact (Wz (by omega) (by omega) hv hw).symm
end Go.Fx.P
namespace Go.Fx.P
open Go Go.Fx Go.Fx.E Go.Proofs
set_option maxRecDepth 20000
def isK (ps:List aG) (kind:Int) (i:Nat):Bool :=
 match ps[i]? with
 | some x=>x.kind==kind
 | none=>false
theorem Dm {ps:List aG} {kind:Int} {i:Nat} (h:i<ps.length):isK ps kind i=(ps[i].kind==kind):=by
 rw [isK,yal h]
def ofN (ps:List aG) (kind:Int) (n:Nat):List Nat:=(yam n).filter (isK ps kind)
theorem lQ {ps:List aG} {kind:Int} {n:Nat}:ofN ps kind (n+1)=ofN ps kind n++(if isK ps kind n then [n] else []):=by
 rw [ofN,ybh,List.filter_append]
 by_cases h:isK ps kind n=true<;>simp [ofN,h]
theorem eZ {ps:List aG} {kind:Int} {n:Nat}:(ofN ps kind n).length≤n:=by
 have:=ycg (isK ps kind) (yam n)
 rw [ybP] at this
 exact this
theorem rU {ps:List aG} {kind:Int} {n i:Nat} (h:i∈ofN ps kind n):i<n:=by
 have:=(List.mem_filter.1 h).1
 exact ybk.1 this
def nE (n:Nat):List V:=[.i n]
theorem Yv (x:Nat):(nE x)[0]?=some (.i x):=rfl
def Mv (l:List Nat):V:=.ro 1 (l.map nE)
theorem Yk (ps:List aG) (rs:List Road) (kind:Int) (hl:ps.length≤100):Ok 77 [bG ps rs,.i kind] (Is (Mv (ofN ps kind ps.length))):=by
 refine xX (R:=fun r hs=>wk (Mv (ofN ps kind ps.length)) (gvV (fun _=>true) hs r)) ?_ fun _ _ h=>h
 refine ok_of lw77 (by simp) ?_
 unfold c77 bG sps rds
 simp -implicitDefEqProofs only [rX,↓rY,aA,cells?,↓reduceIte,Nat.reduceEqDiff,aC,cxN,aK]
 intro hm
 refine fL (.virt 1 1 (by decide) (.nilE 5 1 rfl (.refl _))) (fun k:Nat=>⟨[(11,.i k),(10,.i ps.length),(9,.ro 3 (ps.map aG.enc)),(5,.sl 1 0 (ofN ps kind k).length),(2,.ptr 0 0 0),(1,.i kind)],[.var [.ro 3 (ps.map aG.enc),.ro 4 (rs.map Road.enc)],.arr 1 ((ofN ps kind k).map nE)],0⟩) (fun k=>k≤ps.length) (fun k=>ps.length-k) 0 (by omega) ?_ ?_
 ·simp -implicitDefEqProofs only [rX,↓reduceIte,Nat.reduceEqDiff,reduceCtorEq,leE,leH,leB,leV,bB,aD,aB,wfE,wfB,wfV,wfL,yaj,ofN,ybB,ybC]
 rintro k hk
 unfold c77l0
 simp -implicitDefEqProofs only [rX,↓rY,aA,cells?,splice,↓reduceIte,Nat.reduceEqDiff,Nat.reduceAdd,reduceCtorEq,aC,cI,leE,leH,leB,leV,bB,aD,aB,wfE,wfB,wfV,wfL,bU,bD,kill,bN,St.kill,isD,Nat.reduceLT,yac,mN,iL,u4,nS,yaa]
 simp only [br,yaa,decide_eq_true_eq,decide_eq_false_iff_not]
 refine ⟨fun h=>⟨⟨by omega,h⟩,by omega,?_⟩,fun h=>?_⟩
 ·have hk:k<ps.length:=by omega
  have hs:=lQ (ps:=ps) (kind:=kind) (n:=k)
  have hl2:=eZ (ps:=ps) (kind:=kind) (n:=k)
  rw [Dm hk] at hs
  refine ⟨fun h3=>⟨by omega,by simp only [lo,hi,maxLen] at *;omega,k+1,⟨by omega,by omega⟩,⟨by omega,?_⟩,?_⟩,fun h3=>⟨by simp only [lo,hi,maxLen] at *;omega,k+1,⟨by omega,by omega⟩,⟨by omega,?_⟩,?_⟩⟩
  ·rw [hs,h3];simp
  ·rw [hs,h3,yae (by simp)];simp [nE]
  ·rw [hs,h3];simp
  ·rw [hs,h3];simp
 ·have hk:k=ps.length:=by omega
  subst hk
  simp [qa,qb,qc,qd,qe,qf,qg,qh,qi,qj,qk,ql,qm,qn,qo,qp,qq,qr,qs,qt,qu,qv,qw,qx,qy,qz,qA,qB,qC,qD,qE,qF,qG,qH,qI,qJ,qK,qL,qM,qN,qO,qP,rdK,qQ,qR,qS,qT,qU,qV,qW,qX,qY,qZ,zb,zc,zd,ze,zf,zg,zh,zi,zj,zk,zm,zn,zo,zp,zq,zr,zt,zu,zv,zw,zx,zy,zA,zB,zC,zD,zE,zF,zG,zH,zI,zJ,zK,zL,zM,zN,zO,zP,zQ,zR,zS,zT,zU,zV,zW,zX,zY,zZ,ka,kb,kc,kg,kh,ki,kj,kk,kn,ko,kq,kr,kw,kx,ky,kz,kB,kC,kD,kF,kG,kH,kI,kJ,kK,kL,kM,kN,kO,kP,kQ,kR,kS,kT,kU,kV,kX,aA,cells?,yaB,yav,yaA,splice,kY,yag,yau,↓reduceIte,Nat.reduceEqDiff,yaw,kZ,wa,cR,wb,ybS,ybT,↓wc,↓wd,we,wg,ybe,yaL,yan,yay,Nat.reduceAdd,ybf,reduceCtorEq,aC,ybu,ybU,dN,ybV,bQ,cI,wh,aT,aV,ybv,ybw,wj,leE,leH,leB,leV,bB,aD,aB,wfE,wfB,wfV,wfL,bU,bD,kill,bN,St.kill,yaC,yaQ,yaS,yaV,ybx,ybg,yaG,yaY,isD,isC,yaR,yaK,true_and,and_true,and_self,V.v.injEq,Value.int.injEq,Value.bool.injEq,yaW,yaI,or_false,false_or,yah,yao,yaX,not_false_eq_true,yaM,Nat.reduceLT,Nat.reduceLeDiff,yab,lg0,wl,wm,wo,wq,lg1,wr,wt,wu,wv,lg2,ww,wx,wy,wz,lg3,wC,wD,wE,wF,lg4,wG,wI,wJ,wK,lg5,wL,wM,wN,wO,lg6,wP,wQ,wR,wS,lg7,wT,wU,wV,wW,lg8,wX,wY,wZ,ja,lg9,jb,jc,jd,je,jf,jg,jh,ji,jj,jk,jl,jm,jn,jo,jp,jq,jr,jt,ju,jv,jx,jy,jz,jA,jB,jC,jD,jE,jF,jG,jH,jI,jJ,jK,jL,jM,jN,jO,jP,jQ,jR,jS,jT,jU,jV,jW,jX,jY,jZ,qaa,qab,qac,qad,qae,qaf,qag,qah,qai,qaj,qak,qal,qam,qan,qao,qap,qaq,qar,↓qas,↓qat,↓qau,↓qav,↓qaw,↓qax,↓qay,↓qaz,↓qaA,↓qaB,↓qaC,↓qaD,↓qaE,↓qaF,↓qaG,↓qaH,↓qaI,↓qaJ,↓qaK,↓qaL,↓qaM,↓qaN,↓qaO,↓qaP,↓qaQ,↓qaR,↓qaS,↓qaT,↓qaU,↓qaV,↓qaW,↓qaX,↓qaY,↓qaZ,↓qba,↓qbb,↓qbc,↓qbd,↓qbe,↓qbf,↓qbg,↓qbh,↓qbi,↓qbj,↓qbk,↓qbl,↓qbm,↓qbn,↓qbo,↓qbp,↓qbq,↓qbr,↓qbs,↓qbt,↓qbu,↓qbv,↓qbw,↓qbx,↓qby,↓qbz,↓qbA,↓qbB,↓qbC,↓qbD,↓qbE,↓qbF,↓qbG,↓qbH,↓qbI,↓qbJ,↓qbK,↓qbL,↓qbM,↓qbN,↓qbO,↓qbP,↓qbQ,↓qbR,↓qbS,↓qbT,↓qbU,↓qbV,↓qbW,↓qbX,↓qbY,↓qbZ,↓qca,↓qcb,↓qcc,↓qcd,↓qce,↓qcf,↓qcg,↓qch,↓qci,↓qcj,↓qck,↓qcl,↓qcm,↓qcn,↓qco,↓qcp,↓qcq,↓qcr,↓qcs,↓qct,↓qcu,↓qcv,↓qcw,↓qcx,↓qcy,↓qcz,↓qcA,↓qcB,yao,yac,Jl,Eh,aaJ,aaI,aaH,Jn,Jm,mN,iL,u4,Tq,w7,nS,Hs,pK,mS,Mn,Mm,Ml,Mk,tD,Ii,enc_len,eV,oG,oF,sB,uP,fG,Ea,yY,cP,yZ,tT,yaa,e7,iS,cxN,fE]
  exact ⟨_,⟨Di _,by simp,by simp [wfB,wfL,wfV]⟩,by simp [gvV,gvL,wk,wkR,blk,Mv];exact yae (by simp)⟩
def sF (ps:List aG) (i:Nat):Int :=
 match ps[i]? with
 | some x=>x.cap
 | none=>0
theorem hJ {ps:List aG} {i:Nat} (h:i<ps.length):sF ps i=ps[i].cap:=by
 rw [sF,yal h]
def mK (ps:List aG) (l:List Nat):Int:=(l.map (sF ps)).sum
theorem w6 {ps:List aG} {l m:List Nat}:mK ps (l++m)=mK ps l+mK ps m:=by simp [mK]
def Aj (ps:List aG):Prop:=∀ i (h:i<ps.length),0≤ps[i].cap∧ps[i].cap≤1073741824
theorem vU {ps:List aG} (h:Aj ps) (i:Nat):0≤sF ps i∧sF ps i≤1073741824:=by
 by_cases hi:i<ps.length
 ·rw [hJ hi];exact h i hi
 ·rw [sF,ych (by omega)];exact ⟨Int.le_refl _,by decide⟩
theorem w5 {ps:List aG} (h:Aj ps):∀ l:List Nat,0≤mK ps l∧mK ps l≤1073741824*l.length
 | []=>by simp [mK]
 | i::l=>by
  have h1:=vU h i
  have h2:=w5 h l
  simp only [mK,yaC,List.sum_cons,yav] at *
  omega
def dem (ps:List aG):Int:=mK ps (ofN ps 1 ps.length)
theorem Yl (ps:List aG) (rs:List Road) (hl:ps.length≤100) (hc:Aj ps):Ok 55 [bG ps rs] (Is (.i (dem ps))):=by
 refine ok_of lw55 (by simp) ?_
 unfold c55 bG sps rds
 simp -implicitDefEqProofs only [rX,↓rY,aA,cells?,↓reduceIte,Nat.reduceEqDiff,Nat.reduceAdd,aC,cxN,aK]
 refine aE (Yk ps rs 1 hl) (by simp [bG,sps,rds,aF,aJ,aW,bP,wkL,wk,wkR]) rfl trivial ?_
 unfold Mv
 simp -implicitDefEqProofs only [rX,↓rY,aA,↓reduceIte]
 intro hm
 refine aU (fun k:Nat=>⟨[(9,.i k),(8,.i (ofN ps 1 ps.length).length),(7,.ro 1 ((ofN ps 1 ps.length).map nE)),(3,.i (mK ps ((ofN ps 1 ps.length).take k))),(1,.ptr 0 0 0)],[.var [.ro 3 (ps.map aG.enc),.ro 4 (rs.map Road.enc)]],0⟩) (fun k=>k≤(ofN ps 1 ps.length).length) (fun k=>(ofN ps 1 ps.length).length-k) 0 (by omega) ?_ ?_
 ·simp -implicitDefEqProofs only [rX,↓reduceIte,Nat.reduceEqDiff,leE,leH,leB,leV,bB,aD,aB,wfE,wfB,wfV,wfL,yaj,mK,List.sum_nil]
 rintro k hk
 have hl2:=eZ (ps:=ps) (kind:=1) (n:=ps.length)
 simp -implicitDefEqProofs only [rX,↓rY,aA,↓reduceIte,Nat.reduceEqDiff,aT,aV,leE,leH,leB,leV,bB,aD,aB,wfE,wfB,wfV,wfL,yac,w7,yaa,Yv]
 simp only [br,yaa,decide_eq_true_eq,decide_eq_false_iff_not]
 refine ⟨fun h=>⟨⟨by omega,h⟩,by omega,?_⟩,fun h=>?_⟩
 ·have hkl:k<(ofN ps 1 ps.length).length:=by omega
  have hi:(ofN ps 1 ps.length)[k]<ps.length:=rU (yat hkl)
  have hs:mK ps ((ofN ps 1 ps.length).take (k+1))=mK ps ((ofN ps 1 ps.length).take k)+ps[(ofN ps 1 ps.length)[k]].cap:=by
   rw [ybj hkl,w6]
   simp [mK,hJ hi]
  have hb:=w5 hc ((ofN ps 1 ps.length).take k)
  have hb2:=hc _ hi
  rw [yas] at hb
  refine ⟨⟨by omega,by omega⟩,hi,by simp only [lo,Fx.hi,maxLen] at *;omega,by simp only [lo,Fx.hi,maxLen] at *;omega,k+1,⟨by omega,by omega⟩,by omega,by rw [hs]⟩
 ·have hk:k=(ofN ps 1 ps.length).length:=by omega
  subst hk
  simp [dem]
theorem ahT (ps:List aG) (rs:List Road) (hl:ps.length≤100) (hc:Aj ps):Ok 28 [bG ps rs] (Is (.i (dem ps))):=by
 refine ok_of lw28 (by simp) ?_
 unfold c28 bG sps rds
 simp -implicitDefEqProofs only [rX,↓rY,aA,cells?,↓reduceIte,aC,cxN,aK]
 refine aU (fun k:Nat=>⟨[(4,.i k),(3,.i (mK ps (ofN ps 1 k))),(1,.ptr 0 0 0)],[.var [.ro 3 (ps.map aG.enc),.ro 4 (rs.map Road.enc)]],0⟩) (fun k=>k≤ps.length) (fun k=>ps.length-k) 0 (by omega) ?_ ?_
 ·simp -implicitDefEqProofs only [rX,↓reduceIte,Nat.reduceEqDiff,leE,leH,leB,leV,bB,aD,aB,wfE,wfB,wfV,wfL,yaj,ofN,ybB,ybC,mK,List.sum_nil]
 rintro k hk
 unfold c28l0
 simp -implicitDefEqProofs only [rX,↓rY,aA,↓reduceIte,Nat.reduceEqDiff,aT,aV,leE,leH,leB,leV,bB,aD,aB,wfE,wfB,wfV,wfL,yac,u4,w7,yaa]
 simp only [br,yaa,decide_eq_true_eq,decide_eq_false_iff_not]
 refine fun _=>⟨fun h=>⟨⟨by omega,h⟩,by omega,?_⟩,fun h=>?_⟩
 ·have hk:k<ps.length:=by omega
  have hs:=lQ (ps:=ps) (kind:=1) (n:=k)
  rw [Dm hk] at hs
  have hl2:=eZ (ps:=ps) (kind:=1) (n:=k)
  have hb:=w5 hc (ofN ps 1 k)
  have hb2:=hc k hk
  have h1:mK ps [k]=ps[k].cap:=by simp [mK,hJ hk]
  have h0:mK ps []=0:=rfl
  refine ⟨fun h3=>⟨⟨by omega,h⟩,hk,by simp only [lo,hi,maxLen] at *;omega,by simp only [lo,hi,maxLen] at *;omega,k+1,⟨by omega,by omega⟩,by omega,?_⟩,fun h3=>⟨by simp only [lo,hi,maxLen] at *;omega,k+1,⟨by omega,by omega⟩,by omega,?_⟩⟩
  ·rw [hs,h3,w6];simp [h1]
  ·rw [hs,h3,w6];simp [h0]
 ·have hk:k=ps.length:=by omega
  subst hk
  rfl
end Go.Fx.P
namespace Go.Fx.P
open Go Go.Fx Go.Fx.E Go.Proofs
set_option maxRecDepth 20000
def aP (ps:List aG) (i:Nat):Arc:=⟨2+2*i,3+2*i,sF ps i,0⟩
def aS (ps:List aG) (i:Nat):Arc:=⟨0,2+2*i,sF ps i,0⟩
def aO (ps:List aG) (i:Nat):Arc:=⟨3+2*i,1,sF ps i,0⟩
def aR (r:Road):Arc:=⟨3+2*r.from_,2+2*r.to,r.cap,r.cost⟩
def nA1 (ps:List aG) (n:Nat):List Arc:=(yam n).map (aP ps)
def nA2 (ps:List aG) (l:List Nat):List Arc:=nA1 ps ps.length++l.map (aS ps)
def nA3 (ps:List aG) (l:List Nat):List Arc:=nA2 ps (ofN ps 1 ps.length)++l.map (aO ps)
def nA4 (ps:List aG) (l:List Road):List Arc:=nA3 ps (ofN ps 3 ps.length)++l.map aR
def cC (ps:List aG) (rs:List Road):List Arc:=nA4 ps rs
def lR (ps:List aG):Int:=2+2*(ps.length:Int)
theorem Df {ps:List aG} {n:Nat}:(nA1 ps n).length=n:=by simp [nA1]
theorem vN {ps:List aG} {l:List Nat}:(nA2 ps l).length=ps.length+l.length:=by simp [nA2,Df]
theorem De {ps:List aG} {l:List Nat}:(nA3 ps l).length≤2*ps.length+l.length:=by
 have:=eZ (ps:=ps) (kind:=1) (n:=ps.length)
 simp only [nA3,yah,vN,yao];omega
theorem vM {ps:List aG} {l:List Road}:(nA4 ps l).length≤3*ps.length+l.length:=by
 have:=eZ (ps:=ps) (kind:=3) (n:=ps.length)
 have:=De (ps:=ps) (l:=ofN ps 3 ps.length)
 simp only [nA4,yah,yao];omega
def hN (ps:List aG) (rs:List Road) (l:List Arc):List Blk :=
 [.var [.ro 3 (ps.map aG.enc),.ro 4 (rs.map Road.enc)],.var [.i 0,.nil],.var [.i (lR ps),.sl 3 0 l.length],.arr 4 (l.map Arc.enc)]
theorem j4 (l:List Arc) (a:Arc) (m:List Arc) (h:m=l++[a]):V.sl 3 0 (l.length+1)=V.sl 3 0 m.length∧Blk.arr 4 (yai l.length (l.map Arc.enc)++[[V.v (Value.int .i64 a.from_),V.v (Value.int .i64 a.to),V.v (Value.int .i64 a.cap),V.v (Value.int .i64 a.cost)]])=Blk.arr 4 (m.map Arc.enc):=by
 subst h
 refine ⟨by simp,?_⟩
 rw [yae (by simp),yap]
 rfl
theorem Ws {ps:List aG} {k:Nat} (hk:k<ps.length):nA1 ps (k+1)=nA1 ps k++[⟨2+2*k,3+2*k,ps[k].cap,0⟩]:=by
 rw [nA1,ybh,yap];simp [nA1,aP,hJ hk]
theorem acY {ps:List aG} {l:List Nat} {k:Nat} (hl:k<l.length) (hk:l[k]<ps.length):nA2 ps (l.take (k+1))=nA2 ps (l.take k)++[⟨0,2+2*(l[k]:Nat),ps[l[k]].cap,0⟩]:=by
 rw [ybj hl,nA2,yap];simp [nA2,aS,hJ hk]
theorem acW {ps:List aG} {l:List Nat} {k:Nat} (hl:k<l.length) (hk:l[k]<ps.length):nA3 ps (l.take (k+1))=nA3 ps (l.take k)++[⟨3+2*(l[k]:Nat),1,ps[l[k]].cap,0⟩]:=by
 rw [ybj hl,nA3,yap];simp [nA3,aO,hJ hk]
theorem Wr {ps:List aG} {l:List Road} {k:Nat} (hl:k<l.length):nA4 ps (l.take (k+1))=nA4 ps (l.take k)++[⟨3+2*l[k].from_,2+2*l[k].to,l[k].cap,l[k].cost⟩]:=by
 rw [ybj hl,nA4,yap];simp [nA4,aR]
theorem Yn (ps:List aG) (rs:List Road) (hl:ps.length≤100) (hr:rs.length≤1500) (hv:RInv ps rs rs.length):Ok 51 [bG ps rs] (Is (net (lR ps) (cC ps rs))):=by
 refine xX (R:=fun r hs=>wk (net (lR ps) (cC ps rs)) (gvV (fun _=>true) hs r)) ?_ fun _ _ h=>h
 refine ok_of lw51 (by simp) ?_
 unfold c51 bG sps rds
 simp -implicitDefEqProofs only [rX,↓rY,aA,cells?,splice,↓reduceIte,Nat.reduceEqDiff,Nat.reduceAdd,aC,bQ,isC,Nat.reduceLeDiff,cxN,aK]
 intro hm
 refine ⟨by simp only [lo,hi,maxLen] at *;omega,by simp only [lo,hi,maxLen] at *;omega,?_⟩
 intro _
 refine fL (.virt 1 4 (by decide) (.nilB 2 [.i (lR ps),.nil] [.i (lR ps),.sl 3 0 0] rfl ⟨rfl,fun i a b h1 h2=>?_⟩ (.refl _))) (fun k:Nat=>⟨[(21,.i k),(20,.i ps.length),(19,.ro 3 (ps.map aG.enc)),(3,.ptr 2 0 0),(2,.ptr 1 0 0),(1,.ptr 0 0 0)],hN ps rs (nA1 ps k),0⟩) (fun k=>k≤ps.length) (fun k=>ps.length-k) 0 (by omega) ?_ ?_
 ·match i,h1,h2 with
  | 0,h1,h2=>cases h1;cases h2;exact .inl rfl
  | 1,h1,h2=>cases h1;cases h2;exact .inr ⟨rfl,3,rfl⟩
  | n+2,h1,h2=>cases h1
 ·simp -implicitDefEqProofs only [rX,↓reduceIte,Nat.reduceEqDiff,leE,leH,leB,leV,bB,aD,aB,wfE,wfB,wfV,wfL,yaj,nA1,ybB,hN,lR]
 ·rintro k hk
  unfold c51l0 hN
  simp -implicitDefEqProofs only [rX,↓rY,aA,cells?,splice,↓reduceIte,Nat.reduceEqDiff,Nat.reduceAdd,reduceCtorEq,aC,bQ,cI,leE,leH,leB,leV,bB,aD,aB,wfE,wfB,wfV,wfL,bU,bD,kill,bN,St.kill,isD,isC,Nat.reduceLT,Nat.reduceLeDiff,yac,mN,iL,w7,nS,yaa]
  simp only [br,yaa,decide_eq_true_eq,decide_eq_false_iff_not]
  refine ⟨fun h=>?_,fun h=>?_⟩
  ·have hk:k<ps.length:=by omega
   refine ⟨⟨by omega,h⟩,hk,?_⟩
   have:=Df (ps:=ps) (n:=k)
   simp only [lo,hi,maxLen] at *
   refine ⟨by omega,by omega,by omega,by omega,by omega,by omega,k+1,⟨by omega,by omega⟩,by omega,?_⟩
   exact j4 _ _ _ (Ws hk)
  have hk:k=ps.length:=by omega
  subst hk
  refine aE (Yk ps rs 1 hl) (by simp [bG,sps,rds,aF,aJ,aW,bP,wkL,wk,wkR]) rfl trivial ?_
  have hz2:nA1 ps ps.length=nA2 ps ((ofN ps 1 ps.length).take 0):=by simp [nA2]
  rw [hz2]
  have hq:=eZ (ps:=ps) (kind:=1) (n:=ps.length)
  have hm1:=fun i (h:i<(ofN ps 1 ps.length).length)=>rU (yat h)
  generalize hL:ofN ps 1 ps.length=L at *
  unfold Mv
  simp -implicitDefEqProofs only [rX,↓rY,aA,↓reduceIte]
  intro _
  refine aU (fun k:Nat=>⟨[(44,.i k),(43,.i L.length),(42,.ro 1 (L.map nE)),(3,.ptr 2 0 0),(2,.ptr 1 0 0),(1,.ptr 0 0 0)],hN ps rs (nA2 ps (L.take k)),0⟩) (fun k=>k≤L.length) (fun k=>L.length-k) 0 (by omega) ?_ ?_
  ·simp -implicitDefEqProofs only [rX,↓reduceIte,Nat.reduceEqDiff,leE,leH,leB,leV,bB,aD,aB,wfE,wfB,wfV,wfL,yaj,hN]
  rintro k hk
  unfold c51l1 hN
  simp -implicitDefEqProofs only [rX,↓rY,rdK,aA,cells?,splice,↓reduceIte,Nat.reduceEqDiff,Nat.reduceAdd,reduceCtorEq,aC,bQ,cI,leE,leH,leB,leV,bB,aD,aB,wfE,wfB,wfV,wfL,bU,bD,kill,bN,St.kill,isD,isC,Nat.reduceLT,Nat.reduceLeDiff,yac,w7,yaa,Yv]
  simp only [br,yaa,decide_eq_true_eq,decide_eq_false_iff_not]
  refine ⟨fun h=>?_,fun h=>?_⟩
  ·have hkl:k<L.length:=by omega
   have hi:=hm1 k hkl
   have hlen:=vN (ps:=ps) (l:=L.take k)
   rw [yas] at hlen
   refine ⟨⟨by omega,h⟩,hkl,?_⟩
   simp only [lo,Fx.hi,maxLen] at *
   refine ⟨by omega,by omega,⟨by omega,by omega⟩,hi,by omega,by omega,k+1,⟨by omega,by omega⟩,by omega,?_⟩
   exact j4 _ _ _ (acY hkl hi)
  have hk:k=L.length:=by omega
  subst hk
  refine aE (Yk ps rs 3 hl) (by simp [bG,sps,rds,aF,aJ,aW,bP,wkL,wk,wkR]) rfl trivial ?_
  subst hL
  have hz3:nA2 ps ((ofN ps 1 ps.length).take (ofN ps 1 ps.length).length)=nA3 ps ((ofN ps 3 ps.length).take 0):=by simp [nA3]
  rw [hz3]
  have hq:=eZ (ps:=ps) (kind:=3) (n:=ps.length)
  have hm1:=fun i (h:i<(ofN ps 3 ps.length).length)=>rU (yat h)
  generalize hL:ofN ps 3 ps.length=L at *
  unfold Mv
  simp -implicitDefEqProofs only [rX,↓rY,aA,↓reduceIte]
  intro _
  refine aU (fun k:Nat=>⟨[(67,.i k),(66,.i L.length),(65,.ro 1 (L.map nE)),(3,.ptr 2 0 0),(2,.ptr 1 0 0),(1,.ptr 0 0 0)],hN ps rs (nA3 ps (L.take k)),0⟩) (fun k=>k≤L.length) (fun k=>L.length-k) 0 (by omega) ?_ ?_
  ·simp -implicitDefEqProofs only [rX,↓reduceIte,Nat.reduceEqDiff,leE,leH,leB,leV,bB,aD,aB,wfE,wfB,wfV,wfL,yaj,hN]
  rintro k hk
  unfold c51l2 hN
  simp -implicitDefEqProofs only [rX,↓rY,rdK,aA,cells?,splice,↓reduceIte,Nat.reduceEqDiff,Nat.reduceAdd,reduceCtorEq,aC,bQ,cI,leE,leH,leB,leV,bB,aD,aB,wfE,wfB,wfV,wfL,bU,bD,kill,bN,St.kill,isD,isC,Nat.reduceLT,Nat.reduceLeDiff,yac,w7,yaa,Yv]
  simp only [br,yaa,decide_eq_true_eq,decide_eq_false_iff_not]
  refine ⟨fun h=>?_,fun h=>?_⟩
  ·have hkl:k<L.length:=by omega
   have hi:=hm1 k hkl
   have hlen:=De (ps:=ps) (l:=L.take k)
   rw [yas] at hlen
   refine ⟨⟨by omega,h⟩,hkl,?_⟩
   simp only [lo,Fx.hi,maxLen] at *
   refine ⟨by omega,by omega,⟨by omega,by omega⟩,hi,by omega,by omega,k+1,⟨by omega,by omega⟩,by omega,?_⟩
   exact j4 _ _ _ (acW hkl hi)
  have hk:k=L.length:=by omega
  subst hk
  subst hL
  have hz4:nA3 ps ((ofN ps 3 ps.length).take (ofN ps 3 ps.length).length)=nA4 ps (rs.take 0):=by simp [nA4]
  rw [hz4]
  intro _
  refine aU (fun k:Nat=>⟨[(90,.i k),(89,.i rs.length),(88,.ro 4 (rs.map Road.enc)),(3,.ptr 2 0 0),(2,.ptr 1 0 0),(1,.ptr 0 0 0)],hN ps rs (nA4 ps (rs.take k)),0⟩) (fun k=>k≤rs.length) (fun k=>rs.length-k) 0 (by omega) ?_ ?_
  ·simp -implicitDefEqProofs only [rX,↓reduceIte,Nat.reduceEqDiff,leE,leH,leB,leV,bB,aD,aB,wfE,wfB,wfV,wfL,yaj,hN]
  rintro k hk
  unfold c51l3 hN
  simp -implicitDefEqProofs only [rX,↓rY,aA,cells?,splice,↓reduceIte,Nat.reduceEqDiff,Nat.reduceAdd,reduceCtorEq,aC,bQ,cI,leE,leH,leB,leV,bB,aD,aB,wfE,wfB,wfV,wfL,bU,bD,kill,bN,St.kill,isD,isC,Nat.reduceLT,Nat.reduceLeDiff,yac,pK,mS,Mn,Mm,Ml,Mk,tD,yaa]
  simp only [br,yaa,decide_eq_true_eq,decide_eq_false_iff_not]
  refine ⟨fun h=>?_,fun h=>?_⟩
  ·have hkl:k<rs.length:=by omega
   obtain ⟨hs1,hs2,_⟩:=hv.h k hkl hkl
   have hlen:=vM (ps:=ps) (l:=rs.take k)
   rw [yas] at hlen
   refine ⟨⟨by omega,h⟩,hkl,?_⟩
   simp only [lo,Fx.hi,maxLen] at *
   refine ⟨by omega,by omega,by omega,by omega,by omega,by omega,k+1,⟨by omega,by omega⟩,by omega,?_⟩
   exact j4 _ _ _ (Wr hkl)
  have hk:k=rs.length:=by omega
  subst hk
  simp [qa,qb,qc,qd,qe,qf,qg,qh,qi,qj,qk,ql,qm,qn,qo,qp,qq,qr,qs,qt,qu,qv,qw,qx,qy,qz,qA,qB,qC,qD,qE,qF,qG,qH,qI,qJ,qK,qL,qM,qN,qO,qP,rdK,qQ,qR,qS,qT,qU,qV,qW,qX,qY,qZ,zb,zc,zd,ze,zf,zg,zh,zi,zj,zk,zm,zn,zo,zp,zq,zr,zt,zu,zv,zw,zx,zy,zA,zB,zC,zD,zE,zF,zG,zH,zI,zJ,zK,zL,zM,zN,zO,zP,zQ,zR,zS,zT,zU,zV,zW,zX,zY,zZ,ka,kb,kc,kg,kh,ki,kj,kk,kn,ko,kq,kr,kw,kx,ky,kz,kB,kC,kD,kF,kG,kH,kI,kJ,kK,kL,kM,kN,kO,kP,kQ,kR,kS,kT,kU,kV,kX,aA,cells?,yaB,yav,yaA,splice,kY,yag,yau,↓reduceIte,Nat.reduceEqDiff,yaw,kZ,wa,cR,wb,ybS,ybT,↓wc,↓wd,we,wg,ybe,yaL,yan,yay,Nat.reduceAdd,ybf,reduceCtorEq,aC,ybu,ybU,dN,ybV,bQ,cI,wh,aT,aV,ybv,ybw,wj,leE,leH,leB,leV,bB,aD,aB,wfE,wfB,wfV,wfL,bU,bD,kill,bN,St.kill,yaC,yaQ,yaS,yaV,ybx,ybg,yaG,yaY,isD,isC,yaR,yaK,true_and,and_true,and_self,V.v.injEq,Value.int.injEq,Value.bool.injEq,yaW,yaI,or_false,false_or,yah,yao,yaX,not_false_eq_true,yaM,Nat.reduceLT,Nat.reduceLeDiff,yab,lg0,wl,wm,wo,wq,lg1,wr,wt,wu,wv,lg2,ww,wx,wy,wz,lg3,wC,wD,wE,wF,lg4,wG,wI,wJ,wK,lg5,wL,wM,wN,wO,lg6,wP,wQ,wR,wS,lg7,wT,wU,wV,wW,lg8,wX,wY,wZ,ja,lg9,jb,jc,jd,je,jf,jg,jh,ji,jj,jk,jl,jm,jn,jo,jp,jq,jr,jt,ju,jv,jx,jy,jz,jA,jB,jC,jD,jE,jF,jG,jH,jI,jJ,jK,jL,jM,jN,jO,jP,jQ,jR,jS,jT,jU,jV,jW,jX,jY,jZ,qaa,qab,qac,qad,qae,qaf,qag,qah,qai,qaj,qak,qal,qam,qan,qao,qap,qaq,qar,↓qas,↓qat,↓qau,↓qav,↓qaw,↓qax,↓qay,↓qaz,↓qaA,↓qaB,↓qaC,↓qaD,↓qaE,↓qaF,↓qaG,↓qaH,↓qaI,↓qaJ,↓qaK,↓qaL,↓qaM,↓qaN,↓qaO,↓qaP,↓qaQ,↓qaR,↓qaS,↓qaT,↓qaU,↓qaV,↓qaW,↓qaX,↓qaY,↓qaZ,↓qba,↓qbb,↓qbc,↓qbd,↓qbe,↓qbf,↓qbg,↓qbh,↓qbi,↓qbj,↓qbk,↓qbl,↓qbm,↓qbn,↓qbo,↓qbp,↓qbq,↓qbr,↓qbs,↓qbt,↓qbu,↓qbv,↓qbw,↓qbx,↓qby,↓qbz,↓qbA,↓qbB,↓qbC,↓qbD,↓qbE,↓qbF,↓qbG,↓qbH,↓qbI,↓qbJ,↓qbK,↓qbL,↓qbM,↓qbN,↓qbO,↓qbP,↓qbQ,↓qbR,↓qbS,↓qbT,↓qbU,↓qbV,↓qbW,↓qbX,↓qbY,↓qbZ,↓qca,↓qcb,↓qcc,↓qcd,↓qce,↓qcf,↓qcg,↓qch,↓qci,↓qcj,↓qck,↓qcl,↓qcm,↓qcn,↓qco,↓qcp,↓qcq,↓qcr,↓qcs,↓qct,↓qcu,↓qcv,↓qcw,↓qcx,↓qcy,↓qcz,↓qcA,↓qcB,yao,yac,Jl,Eh,aaJ,aaI,aaH,Jn,Jm,mN,iL,u4,Tq,w7,nS,Hs,pK,mS,Mn,Mm,Ml,Mk,tD,Ii,enc_len,eV,oG,oF,sB,uP,fG,Ea,yY,cP,yZ,tT,yaa,e7,iS,cxN,fE]
  exact ⟨_,⟨Di _,by simp,by simp [wfB,wfL,wfV,aB]⟩,by simp [gvV,gvL,wk,wkR,wkL,blk,net,cC];exact yae (by simp)⟩
end Go.Fx.P
namespace Go.Fx.P
open Go Go.Fx Go.Fx.E Go.Proofs
set_option maxRecDepth 20000
theorem acZ {ps:List aG} {l:List Nat} {k:Nat} (hk:k<ps.length):nA2 ps (l++[k])=nA2 ps l++[⟨0,2+2*(k:Nat),ps[k].cap,0⟩]:=by
 rw [nA2,yap];simp [nA2,aS,hJ hk]
theorem acX {ps:List aG} {l:List Nat} {k:Nat} (hk:k<ps.length):nA3 ps (l++[k])=nA3 ps l++[⟨3+2*(k:Nat),1,ps[k].cap,0⟩]:=by
 rw [nA3,yap];simp [nA3,aO,hJ hk]
theorem ahU (ps:List aG) (rs:List Road) (hl:ps.length≤100) (hr:rs.length≤1500) (hv:RInv ps rs rs.length):Ok 25 [bG ps rs] (Is (net (lR ps) (cC ps rs))):=by
 refine xX (R:=fun r hs=>wk (net (lR ps) (cC ps rs)) (gvV (fun _=>true) hs r)) ?_ fun _ _ h=>h
 refine ok_of lw25 (by simp) ?_
 unfold c25 bG sps rds
 simp -implicitDefEqProofs only [rX,↓rY,aA,cells?,splice,↓reduceIte,Nat.reduceEqDiff,Nat.reduceAdd,aC,bQ,isC,Nat.reduceLeDiff,cxN,aK]
 intro hm
 refine ⟨by simp only [lo,hi,maxLen] at *;omega,by simp only [lo,hi,maxLen] at *;omega,?_⟩
 refine fL (.virt 1 4 (by decide) (.nilB 2 [.i (lR ps),.nil] [.i (lR ps),.sl 3 0 0] rfl ⟨rfl,fun i a b h1 h2=>?_⟩ (.refl _))) (fun k:Nat=>⟨[(4,.i k),(3,.ptr 2 0 0),(2,.ptr 1 0 0),(1,.ptr 0 0 0)],hN ps rs (nA1 ps k),0⟩) (fun k=>k≤ps.length) (fun k=>ps.length-k) 0 (by omega) ?_ ?_
 ·match i,h1,h2 with
  | 0,h1,h2=>cases h1;cases h2;exact .inl rfl
  | 1,h1,h2=>cases h1;cases h2;exact .inr ⟨rfl,3,rfl⟩
  | n+2,h1,h2=>cases h1
 ·simp -implicitDefEqProofs only [rX,↓reduceIte,Nat.reduceEqDiff,leE,leH,leB,leV,bB,aD,aB,wfE,wfB,wfV,wfL,yaj,nA1,ybB,hN,lR]
 rintro k hk
 unfold c25l0 hN
 simp -implicitDefEqProofs only [rX,↓rY,rdK,aA,cells?,splice,↓reduceIte,Nat.reduceEqDiff,Nat.reduceAdd,reduceCtorEq,aC,bQ,cI,leE,leH,leB,leV,bB,aD,aB,wfE,wfB,wfV,wfL,bU,bD,kill,bN,St.kill,isD,isC,Nat.reduceLT,Nat.reduceLeDiff,yac,w7,yaa]
 simp only [br,yaa,decide_eq_true_eq,decide_eq_false_iff_not]
 refine fun _=>⟨fun h=>?_,fun h=>?_⟩
 ·have hk:k<ps.length:=by omega
  have:=Df (ps:=ps) (n:=k)
  simp only [lo,hi,maxLen] at *
  refine ⟨by omega,by omega,by omega,by omega,⟨by omega,by omega⟩,hk,by omega,by omega,k+1,⟨by omega,by omega⟩,by omega,?_⟩
  exact j4 _ _ _ (Ws hk)
 have hk:k=ps.length:=by omega
 subst hk
 have hz2:nA1 ps ps.length=nA2 ps (ofN ps 1 0):=by simp [nA2,ofN]
 rw [hz2]
 refine aU (fun k:Nat=>⟨[(5,.i k),(3,.ptr 2 0 0),(2,.ptr 1 0 0),(1,.ptr 0 0 0)],hN ps rs (nA2 ps (ofN ps 1 k)),0⟩) (fun k=>k≤ps.length) (fun k=>ps.length-k) 0 (by omega) ?_ ?_
 ·simp -implicitDefEqProofs only [rX,↓reduceIte,Nat.reduceEqDiff,leE,leH,leB,leV,bB,aD,aB,wfE,wfB,wfV,wfL,yaj,hN]
 rintro k hk
 unfold c25l1 hN
 simp -implicitDefEqProofs only [rX,↓rY,rdK,aA,cells?,splice,↓reduceIte,Nat.reduceEqDiff,Nat.reduceAdd,reduceCtorEq,aC,bQ,cI,leE,leH,leB,leV,bB,aD,aB,wfE,wfB,wfV,wfL,bU,bD,kill,bN,St.kill,isD,isC,Nat.reduceLT,Nat.reduceLeDiff,yac,u4,w7,yaa]
 simp only [br,yaa,decide_eq_true_eq,decide_eq_false_iff_not]
 refine fun _=>⟨fun h=>?_,fun h=>?_⟩
 ·have hk:k<ps.length:=by omega
  have hs:=lQ (ps:=ps) (kind:=1) (n:=k)
  rw [Dm hk] at hs
  have hl2:=eZ (ps:=ps) (kind:=1) (n:=k)
  have hlen:=vN (ps:=ps) (l:=ofN ps 1 k)
  simp only [lo,hi,maxLen] at *
  refine ⟨⟨by omega,h⟩,hk,fun h3=>?_,fun h3=>?_⟩
  ·rw [h3,if_pos rfl] at hs
   refine ⟨by omega,by omega,⟨by omega,by omega⟩,hk,by omega,by omega,k+1,⟨by omega,by omega⟩,by omega,?_⟩
   rw [hs]
   exact j4 _ _ _ (acZ hk)
  ·rw [h3,if_neg (by simp),yan] at hs
   refine ⟨by omega,k+1,⟨by omega,by omega⟩,by omega,?_⟩
   rw [hs];exact ⟨rfl,rfl⟩
 have hk:k=ps.length:=by omega
 subst hk
 have hz3:nA2 ps (ofN ps 1 ps.length)=nA3 ps (ofN ps 3 0):=by simp [nA3,ofN]
 rw [hz3]
 refine aU (fun k:Nat=>⟨[(6,.i k),(3,.ptr 2 0 0),(2,.ptr 1 0 0),(1,.ptr 0 0 0)],hN ps rs (nA3 ps (ofN ps 3 k)),0⟩) (fun k=>k≤ps.length) (fun k=>ps.length-k) 0 (by omega) ?_ ?_
 ·simp -implicitDefEqProofs only [rX,↓reduceIte,Nat.reduceEqDiff,leE,leH,leB,leV,bB,aD,aB,wfE,wfB,wfV,wfL,yaj,hN]
 rintro k hk
 unfold c25l2 hN
 simp -implicitDefEqProofs only [rX,↓rY,rdK,aA,cells?,splice,↓reduceIte,Nat.reduceEqDiff,Nat.reduceAdd,reduceCtorEq,aC,bQ,cI,leE,leH,leB,leV,bB,aD,aB,wfE,wfB,wfV,wfL,bU,bD,kill,bN,St.kill,isD,isC,Nat.reduceLT,Nat.reduceLeDiff,yac,u4,w7,yaa]
 simp only [br,yaa,decide_eq_true_eq,decide_eq_false_iff_not]
 refine fun _=>⟨fun h=>?_,fun h=>?_⟩
 ·have hk:k<ps.length:=by omega
  have hs:=lQ (ps:=ps) (kind:=3) (n:=k)
  rw [Dm hk] at hs
  have hl2:=eZ (ps:=ps) (kind:=3) (n:=k)
  have hlen:=De (ps:=ps) (l:=ofN ps 3 k)
  simp only [lo,hi,maxLen] at *
  refine ⟨⟨by omega,h⟩,hk,fun h3=>?_,fun h3=>?_⟩
  ·rw [h3,if_pos rfl] at hs
   refine ⟨by omega,by omega,⟨by omega,by omega⟩,hk,by omega,by omega,k+1,⟨by omega,by omega⟩,by omega,?_⟩
   rw [hs]
   exact j4 _ _ _ (acX hk)
  ·rw [h3,if_neg (by simp),yan] at hs
   refine ⟨by omega,k+1,⟨by omega,by omega⟩,by omega,?_⟩
   rw [hs];exact ⟨rfl,rfl⟩
 have hk:k=ps.length:=by omega
 subst hk
 have hz4:nA3 ps (ofN ps 3 ps.length)=nA4 ps (rs.take 0):=by simp [nA4]
 rw [hz4]
 refine aU (fun k:Nat=>⟨[(7,.i k),(3,.ptr 2 0 0),(2,.ptr 1 0 0),(1,.ptr 0 0 0)],hN ps rs (nA4 ps (rs.take k)),0⟩) (fun k=>k≤rs.length) (fun k=>rs.length-k) 0 (by omega) ?_ ?_
 ·simp -implicitDefEqProofs only [rX,↓reduceIte,Nat.reduceEqDiff,leE,leH,leB,leV,bB,aD,aB,wfE,wfB,wfV,wfL,yaj,hN]
 rintro k hk
 unfold c25l3 hN
 simp -implicitDefEqProofs only [rX,↓rY,aA,cells?,splice,↓reduceIte,Nat.reduceEqDiff,Nat.reduceAdd,reduceCtorEq,aC,bQ,cI,leE,leH,leB,leV,bB,aD,aB,wfE,wfB,wfV,wfL,bU,bD,kill,bN,St.kill,isD,isC,Nat.reduceLT,Nat.reduceLeDiff,yac,pK,mS,Mn,Mm,Ml,Mk,tD,yaa]
 simp only [br,yaa,decide_eq_true_eq,decide_eq_false_iff_not]
 refine fun _=>⟨fun h=>?_,fun h=>?_⟩
 ·have hkl:k<rs.length:=by omega
  obtain ⟨hs1,hs2,_⟩:=hv.h k hkl hkl
  have hlen:=vM (ps:=ps) (l:=rs.take k)
  rw [yas] at hlen
  refine ⟨⟨by omega,h⟩,hkl,?_⟩
  simp only [lo,Fx.hi,maxLen] at *
  refine ⟨by omega,by omega,by omega,by omega,by omega,by omega,k+1,⟨by omega,by omega⟩,by omega,?_⟩
  exact j4 _ _ _ (Wr hkl)
 have hk:k=rs.length:=by omega
 subst hk
 simp [qa,qb,qc,qd,qe,qf,qg,qh,qi,qj,qk,ql,qm,qn,qo,qp,qq,qr,qs,qt,qu,qv,qw,qx,qy,qz,qA,qB,qC,qD,qE,qF,qG,qH,qI,qJ,qK,qL,qM,qN,qO,qP,rdK,qQ,qR,qS,qT,qU,qV,qW,qX,qY,qZ,zb,zc,zd,ze,zf,zg,zh,zi,zj,zk,zm,zn,zo,zp,zq,zr,zt,zu,zv,zw,zx,zy,zA,zB,zC,zD,zE,zF,zG,zH,zI,zJ,zK,zL,zM,zN,zO,zP,zQ,zR,zS,zT,zU,zV,zW,zX,zY,zZ,ka,kb,kc,kg,kh,ki,kj,kk,kn,ko,kq,kr,kw,kx,ky,kz,kB,kC,kD,kF,kG,kH,kI,kJ,kK,kL,kM,kN,kO,kP,kQ,kR,kS,kT,kU,kV,kX,aA,cells?,yaB,yav,yaA,splice,kY,yag,yau,↓reduceIte,Nat.reduceEqDiff,yaw,kZ,wa,cR,wb,ybS,ybT,↓wc,↓wd,we,wg,ybe,yaL,yan,yay,Nat.reduceAdd,ybf,reduceCtorEq,aC,ybu,ybU,dN,ybV,bQ,cI,wh,aT,aV,ybv,ybw,wj,leE,leH,leB,leV,bB,aD,aB,wfE,wfB,wfV,wfL,bU,bD,kill,bN,St.kill,yaC,yaQ,yaS,yaV,ybx,ybg,yaG,yaY,isD,isC,yaR,yaK,true_and,and_true,and_self,V.v.injEq,Value.int.injEq,Value.bool.injEq,yaW,yaI,or_false,false_or,yah,yao,yaX,not_false_eq_true,yaM,Nat.reduceLT,Nat.reduceLeDiff,yab,lg0,wl,wm,wo,wq,lg1,wr,wt,wu,wv,lg2,ww,wx,wy,wz,lg3,wC,wD,wE,wF,lg4,wG,wI,wJ,wK,lg5,wL,wM,wN,wO,lg6,wP,wQ,wR,wS,lg7,wT,wU,wV,wW,lg8,wX,wY,wZ,ja,lg9,jb,jc,jd,je,jf,jg,jh,ji,jj,jk,jl,jm,jn,jo,jp,jq,jr,jt,ju,jv,jx,jy,jz,jA,jB,jC,jD,jE,jF,jG,jH,jI,jJ,jK,jL,jM,jN,jO,jP,jQ,jR,jS,jT,jU,jV,jW,jX,jY,jZ,qaa,qab,qac,qad,qae,qaf,qag,qah,qai,qaj,qak,qal,qam,qan,qao,qap,qaq,qar,↓qas,↓qat,↓qau,↓qav,↓qaw,↓qax,↓qay,↓qaz,↓qaA,↓qaB,↓qaC,↓qaD,↓qaE,↓qaF,↓qaG,↓qaH,↓qaI,↓qaJ,↓qaK,↓qaL,↓qaM,↓qaN,↓qaO,↓qaP,↓qaQ,↓qaR,↓qaS,↓qaT,↓qaU,↓qaV,↓qaW,↓qaX,↓qaY,↓qaZ,↓qba,↓qbb,↓qbc,↓qbd,↓qbe,↓qbf,↓qbg,↓qbh,↓qbi,↓qbj,↓qbk,↓qbl,↓qbm,↓qbn,↓qbo,↓qbp,↓qbq,↓qbr,↓qbs,↓qbt,↓qbu,↓qbv,↓qbw,↓qbx,↓qby,↓qbz,↓qbA,↓qbB,↓qbC,↓qbD,↓qbE,↓qbF,↓qbG,↓qbH,↓qbI,↓qbJ,↓qbK,↓qbL,↓qbM,↓qbN,↓qbO,↓qbP,↓qbQ,↓qbR,↓qbS,↓qbT,↓qbU,↓qbV,↓qbW,↓qbX,↓qbY,↓qbZ,↓qca,↓qcb,↓qcc,↓qcd,↓qce,↓qcf,↓qcg,↓qch,↓qci,↓qcj,↓qck,↓qcl,↓qcm,↓qcn,↓qco,↓qcp,↓qcq,↓qcr,↓qcs,↓qct,↓qcu,↓qcv,↓qcw,↓qcx,↓qcy,↓qcz,↓qcA,↓qcB,yao,yac,Jl,Eh,aaJ,aaI,aaH,Jn,Jm,mN,iL,u4,Tq,w7,nS,Hs,pK,mS,Mn,Mm,Ml,Mk,tD,Ii,enc_len,eV,oG,oF,sB,uP,fG,Ea,yY,cP,yZ,tT,yaa,e7,iS,cxN,fE]
 exact ⟨_,⟨Di _,by simp,by simp [wfB,wfL,wfV,aB]⟩,by simp [gvV,gvL,wk,wkR,wkL,blk,net,cC];exact yae (by simp)⟩
end Go.Fx.P
namespace Go.Fx.P
open Go Go.Fx Go.Fx.E Go.Proofs
set_option maxRecDepth 20000
theorem g0 {ps:List aG} {rs:List Road} (h:fI ps rs=0):(ps.length≤100∧rs.length≤1500)∧Aj ps∧RInv ps rs rs.length:=by
 unfold fI at h
 by_cases h1:100<ps.length∨1500<rs.length
 ·rw [if_pos h1] at h;cases h
 rw [if_neg h1] at h
 by_cases h2:iE (eAt ps) ps.length 0≠0
 ·rw [if_pos h2] at h;exact absurd h h2
 rw [if_neg h2] at h
 by_cases h3:∀ r∈rs,iG ps r
 ·refine ⟨by omega,?_,⟨fun j hj _=>h3 _ (yat hj)⟩⟩
  have key:∀ n i,i≤n→i<ps.length→eAt ps i=0:=by
   intro n
   induction n with
   | zero =>
    intro i hi hil
    by_cases h4:eAt ps i=0
    ·exact h4
    ·exact absurd (iR (n:=ps.length) (k:=0) (by omega) (by omega) (fun j _ hj=>by omega) h4) (by simp only [ne_eq,Classical.not_not] at h2;rw [h2];exact fun h5=>h4 h5.symm)
   | succ n ih =>
    intro i hi hil
    by_cases h4:eAt ps i=0
    ·exact h4
    ·exact absurd (iR (n:=ps.length) (k:=0) (by omega) (by omega) (fun j _ hj=>ih j (by omega) (by omega)) h4) (by simp only [ne_eq,Classical.not_not] at h2;rw [h2];exact fun h5=>h4 h5.symm)
  intro i hi
  have:=key i i (by omega) hi
  rw [Eb hi] at this
  by_cases h4:fT ps[i]=false
  ·rw [if_pos h4] at this;cases this
  ·have h5:j0 ps[i]:=by simpa [fT] using h4
   exact h5.1
 ·rw [if_neg h3] at h;cases h
abbrev tPl:Fx.T:=.st [.sl 3 (.st [.int .i64,.int .i64,.int .i64]),.sl 4 (.st [.int .i64,.int .i64,.int .i64,.int .i64])]
theorem exM {α β:Type} {g:α→β}:∀ {els:List β},(∀ x∈els,∃ a,x=g a)→∃ l:List α,els=l.map g
 | [],_=>⟨[],rfl⟩
 | x::r,h=>by
  obtain ⟨a,rfl⟩:=h x yaO
  obtain ⟨l,rfl⟩:=exM (els:=r) fun y hy=>h y (yaP _ hy)
  exact ⟨a::l,rfl⟩
theorem wf_sp {x:List V} (h:WfT (.st [.int .i64,.int .i64,.int .i64]) x):∃ a:aG,x=a.enc:=by
 simp only [WfT,l9] at h
 obtain ⟨_,_,rfl,⟨a,rfl,_⟩,_,_,rfl,⟨b,rfl,_⟩,_,_,rfl,⟨c,rfl,_⟩,rfl⟩:=h
 exact ⟨⟨a,b,c⟩,rfl⟩
theorem wf_rd {x:List V} (h:WfT (.st [.int .i64,.int .i64,.int .i64,.int .i64]) x):∃ a:Road,x=a.enc:=by
 simp only [WfT,l9] at h
 obtain ⟨_,_,rfl,⟨a,rfl,_⟩,_,_,rfl,⟨b,rfl,_⟩,_,_,rfl,⟨c,rfl,_⟩,_,_,rfl,⟨d,rfl,_⟩,rfl⟩:=h
 exact ⟨⟨a,b,c,d⟩,rfl⟩
theorem wf_plant {x:V} (h:WfV tPl x):∃ ps rs,x=bG ps rs:=by
 simp only [WfV] at h
 obtain ⟨cs,h,rfl⟩:=h
 rw [l9.eq_2] at h
 obtain ⟨a,b,rfl,h1,h2⟩:=h
 rw [l9.eq_2] at h2
 obtain ⟨c,d,rfl,h3,h4⟩:=h2
 rw [l9.eq_1] at h4
 subst h4
 rw [WfT] at h1
 obtain ⟨els,rfl,_,he⟩:=h1
 obtain ⟨ps,rfl⟩:=exM (fun x hx=>wf_sp (he x hx))
 rw [WfT] at h3
 obtain ⟨els,rfl,_,he⟩:=h3
 obtain ⟨rs,rfl⟩:=exM (fun x hx=>wf_rd (he x hx))
 exact ⟨ps,rs,rfl⟩
end Go.Fx.P
namespace Go.Fx.P.K
open Go Go.Fx Go.Fx.E Go.Proofs
set_option maxRecDepth 20000
def nK (n k:Int):Bool:=decide (0≤k∧k<n)
def nb (n:Int) (arcs:List Arc):Blk:=.var [.i n,.ro 4 (arcs.map Arc.enc)]
theorem Wm (n:Int) (arcs:List Arc) (k:Int):OkN Tryz.prog 121 [.i k,.ptr 0 0 0] [nb n arcs] [] (IsA (.b (nK n k)) [nb n arcs]):=by
 refine eL pol [0] lw121 (by simp) ⟨trivial,trivial⟩ (by simp) ?_
 unfold c121 nb
 simp -implicitDefEqProofs only [rX,↓rY,aA,↓reduceIte,Nat.reduceEqDiff,reduceCtorEq,aT,aV,leH,leB,leV,bB,aD,aB,wfB,wfV,wfL,cxN,aK,cO]
 simp only [br,decide_eq_true_eq,decide_eq_false_iff_not,nK]
 grind
def Er (n f t am:Int):Bool:=decide ((0≤f∧f<n)∧(0≤t∧t<n)∧f≠t∧0≤am∧am≤2199023255552)
theorem agV (n:Int) (arcs:List Arc) (f t am:Int):Ok 88 [net n arcs,.i f,.i t,.i am] (Is (.b (Er n f t am))):=by
 refine ok_of lw88 (by simp) ?_
 unfold c88 net
 simp -implicitDefEqProofs only [rX,↓rY,aA,cells?,↓reduceIte,Nat.reduceEqDiff,Nat.reduceAdd,reduceCtorEq,aC,aT,aV,wfV,cxN,aK]
 simp only [br,decide_eq_true_eq,decide_eq_false_iff_not,Er]
 grind
end Go.Fx.P.K
namespace Go.Fx.P.K
open Go Go.Fx Go.Fx.E Go.Proofs
set_option maxRecDepth 20000
def fR (n:Int) (a:Arc):Bool:=nK n a.from_&&(nK n a.to&&decide (a.from_≠a.to∧0≤a.cap∧a.cap≤1073741824∧0≤a.cost∧a.cost≤1048576))
def iF (n:Int) (arcs:List Arc):Int:=if 256<n∨2048<arcs.length then 2 else if n<1 then 1 else if arcs.all (fR n) then 0 else 1
theorem Gw {n:Int} {arcs:List Arc} (h:256<n∨2048<arcs.length):iF n arcs=2:=by simp only [iF,if_pos h]
theorem Sc {n:Int} {arcs:List Arc} (h:¬(256<n∨2048<arcs.length)) (h1:n<1):iF n arcs=1:=by simp only [iF,if_neg h,if_pos h1]
theorem Gx {n:Int} {arcs:List Arc} (h:¬(256<n∨2048<arcs.length)) (h1:¬n<1) (h2:∀ k (h:k<arcs.length),fR n arcs[k]=true):iF n arcs=0:=by
 have:arcs.all (fR n)=true:=by
  rw [List.all_eq_true]
  intro a ha
  obtain ⟨j,hj,rfl⟩:=ybi ha
  exact h2 j hj
 simp only [iF,if_neg h,if_neg h1,this,if_true]
theorem Sb {n:Int} {arcs:List Arc} (h:¬(256<n∨2048<arcs.length)) (h1:¬n<1) {k:Nat} (hk:k<arcs.length) (h2:fR n arcs[k]=false):iF n arcs=1:=by
 have:arcs.all (fR n)=false:=by
  rw [List.all_eq_false]
  exact ⟨_,yat hk,by simp [h2]⟩
 simp only [iF,if_neg h,if_neg h1,this]
 rfl
structure Vq (n:Int) (arcs:List Arc) (k:Nat):Prop where
 h:∀ j (h:j<arcs.length),j<k→fR n arcs[j]=true
theorem Vq.next {n:Int} {arcs:List Arc} {k:Nat} (h:Vq n arcs k) (hk:k<arcs.length) (hv:fR n arcs[k]=true):Vq n arcs (k+1):=by
 refine ⟨fun j hj h2=>?_⟩
 by_cases h3:j=k
 ·subst h3;exact hv
 ·exact h.h j hj (by omega)
theorem agW (n:Int) (arcs:List Arc):Ok 87 [net n arcs] (Is (.i (iF n arcs))):=by
 refine ok_of lw87 (by simp) ?_
 unfold c87 net
 simp -implicitDefEqProofs only [rX,↓rY,aA,cells?,↓reduceIte,Nat.reduceEqDiff,aC,aT,aV,wfV,cxN,aK]
 simp only [br,decide_eq_true_eq,decide_eq_false_iff_not]
 refine ⟨fun h=>?_,fun h1 hm=>⟨fun h=>?_,fun h2=>⟨fun h=>?_,fun h3=>?_⟩⟩⟩
 ·exact (Gw (.inl h)).symm
 ·exact (Gw (.inr (by omega))).symm
 ·exact (Sc (by omega) h).symm
 intro _
 refine aU (fun k:Nat=>⟨[(22,.i k),(21,.i arcs.length),(20,.ro 4 (arcs.map Arc.enc)),(3,.clo 121 [.ptr 0 0 0]),(1,.ptr 0 0 0)],[.var [.i n,.ro 4 (arcs.map Arc.enc)]],0⟩) (fun k=>k≤arcs.length∧Vq n arcs k) (fun k=>arcs.length-k) 0 ⟨by omega,⟨by simp⟩⟩ ?_ ?_
 ·simp -implicitDefEqProofs only [rX,↓reduceIte,Nat.reduceEqDiff,leE,leH,leB,leV,bB,aD,aB,wfE,wfB,wfV,wfL,bB,leV,yaj]
 rintro k ⟨hk,hv⟩
 simp -implicitDefEqProofs only [rX,↓rY,aA,cells?,splice,↓reduceIte,Nat.reduceEqDiff,Nat.reduceAdd,aC,aT,aV,wfV,yac,enc_len,eV,oG,fG,yaa]
 simp only [br,decide_eq_true_eq,decide_eq_false_iff_not]
 refine ⟨fun h=>⟨⟨by omega,h⟩,⟨by omega,?_⟩⟩,fun h=>(Gx (by omega) h3 fun j hj=>hv.h j hj (by omega)).symm⟩
 have hk:k<arcs.length:=by omega
 have bad:=fun (h:fR n arcs[k]=false)=>(Sb (n:=n) (arcs:=arcs) (by omega) h3 hk h).symm
 have good:=fun (h:fR n arcs[k]=true)=>hv.next hk h
 refine cX [0] [.i arcs[k].from_,.ptr 0 0 0] (.b (nK n arcs[k].from_)) (.b (nK n arcs[k].from_)) [nb n arcs] [nb n arcs] _ (Wm n arcs arcs[k].from_) ⟨by simp,by simp⟩ rfl ?_ (by simp) rfl rfl trivial ?_
 ·simp [aF,aJ,aW,bP,wkL,wk,pos]
 cases hf:nK n arcs[k].from_ with
 | false =>
  simp -implicitDefEqProofs only [rX,↓rY,aA,↓reduceIte,Nat.reduceEqDiff,Nat.reduceAdd,aT,aV,wfV]
  exact bad (by simp [fR,hf])
 | true =>
  simp -implicitDefEqProofs only [rX,↓rY,↓reduceIte,Nat.reduceEqDiff,Nat.reduceAdd,oF,bH,cA,cJ,ren,nb]
  refine cX [0] [.i arcs[k].to,.ptr 0 0 0] (.b (nK n arcs[k].to)) (.b (nK n arcs[k].to)) [nb n arcs] [nb n arcs] _ (Wm n arcs arcs[k].to) ⟨by simp,by simp⟩ rfl ?_ (by simp) rfl rfl trivial ?_
  ·simp [aF,aJ,aW,bP,wkL,wk,pos]
  cases ht:nK n arcs[k].to with
  | false =>
   simp -implicitDefEqProofs only [rX,↓rY,aA,↓reduceIte,Nat.reduceEqDiff,Nat.reduceAdd,aT,aV,wfV,bH,cA,cJ,ren,nb]
   exact bad (by simp [fR,ht])
  | true =>
   simp -implicitDefEqProofs only [rX,↓rY,aA,↓reduceIte,Nat.reduceEqDiff,Nat.reduceAdd,aT,aV,leE,leH,leB,leV,bB,aD,aB,wfE,wfB,wfV,wfL,oG,oF,sB,uP,bH,cA,cJ,ren,nb]
   simp only [br,decide_eq_true_eq,decide_eq_false_iff_not,fR,hf,ht,Bool.true_and] at bad good ⊢
   simp only [lo,hi,maxLen,beq_iff_eq,beq_eq_false_iff_ne] at *
   repeat' (first|(refine ⟨(k+1:_),?_⟩)|(refine ⟨by omega,?_⟩)|(refine And.intro ?_ ?_)|(refine (fun _=>?_)))
   all_goals first|omega|(apply bad;omega)|(apply good;omega)
end Go.Fx.P.K
namespace Go.Fx.P.K
open Go Go.Fx Go.Fx.E Go.Proofs
set_option maxRecDepth 20000
structure Val (N:Nat) (arcs:List Arc):Prop where
 hn:1≤N∧N≤256
 hl:arcs.length≤2048
 ha:∀ a∈arcs,(0≤a.from_∧a.from_<N)∧(0≤a.to∧a.to<N)∧a.from_≠a.to∧(0≤a.cap∧a.cap≤1073741824)∧0≤a.cost∧a.cost≤1048576
theorem Val.of {n:Int} {arcs:List Arc} (h:iF n arcs=0):∃ N:Nat,n=N∧Val N arcs:=by
 unfold iF at h
 split at h
 ·cases h
 ·split at h
  ·cases h
  ·split at h
   ·rename_i h1 h2 h3
    refine ⟨n.toNat,by omega,by omega,by omega,fun a ha=>?_⟩
    rw [List.all_eq_true] at h3
    have:=h3 a ha
    simp only [fR,nK,ybc,decide_eq_true_eq] at this
    omega
   ·cases h
theorem Val.chk {N:Nat} {arcs:List Arc} (h:Val N arcs):iF N arcs=0:=by
 obtain ⟨h1,h2,h3⟩:=h
 refine Gx (by omega) (by omega) fun k hk=>?_
 have:=h3 _ (yat hk)
 simp only [fR,nK,ybc,decide_eq_true_eq]
 omega
def Pn (arcs:List Arc) (flow:List Int):Prop:=∀ i (h1:i<flow.length) (h2:i<arcs.length),0≤flow[i]∧flow[i]≤arcs[i].cap
theorem Val.flow {N:Nat} {arcs:List Arc} (h:Val N arcs) {flow:List Int} (hl:flow.length=arcs.length) (hp:Pn arcs flow):∀ x∈flow,0≤x∧x≤1073741824:=by
 intro x hx
 obtain ⟨i,hi,rfl⟩:=ybi hx
 have h1:=hp i hi (by omega)
 have h2:=(h.ha arcs[i] (yat _))
 omega
def valTo (arcs:List Arc) (node:Int) (flow:List Int):Nat→Int
 | 0=>0
 | k+1=>valTo arcs node flow k+(if (arcs.getD k ⟨0,0,0,0⟩).from_=node then flow.getD k 0 else 0)-(if (arcs.getD k ⟨0,0,0,0⟩).to=node then flow.getD k 0 else 0)
theorem Zo {flow:List Int} (hf:∀ x∈flow,0≤x∧x≤1073741824) (k:Nat):0≤flow.getD k 0∧flow.getD k 0≤1073741824:=by
 rw [yag]
 cases h:flow[k]? with
 | none=>simp
 | some x=>exact hf x (ybW h)
theorem Hl {arcs:List Arc} {node:Int} {flow:List Int} {k:Nat} (h1:k<arcs.length) (h2:k<flow.length):valTo arcs node flow (k+1)=valTo arcs node flow k+(if arcs[k].from_=node then flow[k] else 0)-(if arcs[k].to=node then flow[k] else 0):=by
 simp only [valTo,yag,yal h1,yal h2,yaw]
def dU (arcs:List Arc) (flow:List Int):Nat→Int
 | 0=>0
 | k+1=>dU arcs flow k+flow.getD k 0*(arcs.getD k ⟨0,0,0,0⟩).cost
theorem v7 {arcs:List Arc} {flow:List Int} {k:Nat} (h1:k<arcs.length) (h2:k<flow.length):dU arcs flow (k+1)=dU arcs flow k+flow[k]*arcs[k].cost:=by
 simp only [dU,yag,yal h1,yal h2,yaw]
theorem Kx {a b:Int} (h1:0≤a∧a≤1073741824) (h2:0≤b∧b≤1048576):0≤a*b∧a*b≤1125899906842624:=by
 refine ⟨Int.mul_nonneg h1.1 h2.1,?_⟩
 have:=Int.mul_le_mul h1.2 h2.2 h2.1 (by omega)
 omega
theorem uE (arcs:List Arc) (flow:List Int) (hf:∀ x∈flow,0≤x∧x≤1073741824) (ha:∀ a∈arcs,0≤a.cost∧a.cost≤1048576):∀ k:Nat,0≤dU arcs flow k∧dU arcs flow k≤(k:Int)*1125899906842624
 | 0=>by simp [dU]
 | k+1=>by
  have h1:=uE arcs flow hf ha k
  have h2:=Zo hf k
  have h3:0≤(arcs.getD k ⟨0,0,0,0⟩).cost∧(arcs.getD k ⟨0,0,0,0⟩).cost≤1048576:=by
   rw [yag]
   cases h:arcs[k]? with
   | none=>simp
   | some x=>exact ha x (ybW h)
  have:=Kx h2 h3
  simp only [dU]
  omega
end Go.Fx.P.K
namespace Go.Fx.P.K
open Go Go.Fx Go.Fx.E Go.Proofs
set_option maxRecDepth 20000
structure OkF (n:Int) (arcs:List Arc) (f t:Int) (flow:List Int):Prop where
 hl:flow.length=arcs.length
 hp:Pn arcs flow
 hz:∀ j:Int,0≤j→j<n→j≠f→j≠t→valTo arcs j flow arcs.length=0
structure PInv (arcs:List Arc) (flow:List Int) (k:Nat):Prop where
 h:∀ j (h1:j<flow.length) (h2:j<arcs.length),j<k→0≤flow[j]∧flow[j]≤arcs[j].cap
def hasB (l:List Int) (x:Int):Bool:=decide (x∈l)
structure OkP (N:Nat) (arcs:List Arc) (f:Int) (flow price:List Int):Prop where
 hl:price.length=N
 h0:price.getD f.toNat 0=0
 hb:∀ j (h:j<price.length),0≤price[j]∧price[j]≤1073741824
 ha:∀ k (h:k<arcs.length),(arcs[k].cost+price.getD arcs[k].from_.toNat 0-price.getD arcs[k].to.toNat 0<0→arcs[k].cap≤flow.getD k 0)∧(0<arcs[k].cost+price.getD arcs[k].from_.toNat 0-price.getD arcs[k].to.toNat 0→flow.getD k 0≤0)
open Classical in
noncomputable def prB (N:Nat) (arcs:List Arc) (f:Int) (flow price:List Int):Bool:=decide (OkP N arcs f flow price)
theorem Wg {N:Nat} {arcs:List Arc} {f:Int} {flow price:List Int} (h:OkP N arcs f flow price):true=prB N arcs f flow price:=by simp [prB,h]
theorem Fh {N:Nat} {arcs:List Arc} {f:Int} {flow price:List Int} (h:¬OkP N arcs f flow price):false=prB N arcs f flow price:=by simp [prB,h]
theorem getD_at {l:List Int} {i:Int} (h:0≤i∧i<l.length):l.getD i.toNat 0=l[i.toNat]'(by omega):=by
 rw [yag,yal (by omega)];rfl
theorem bX {l:List Int} {k:Nat} (h:k<l.length):l.getD k 0=l[k]:=by
 rw [yag,yal h];rfl
structure RInv (arcs:List Arc) (flow price:List Int) (k:Nat):Prop where
 h:∀ k' (h:k'<arcs.length),k'<k→(arcs[k'].cost+price.getD arcs[k'].from_.toNat 0-price.getD arcs[k'].to.toNat 0<0→arcs[k'].cap≤flow.getD k' 0)∧(0<arcs[k'].cost+price.getD arcs[k'].from_.toNat 0-price.getD arcs[k'].to.toNat 0→flow.getD k' 0≤0)
theorem RInv.next {arcs:List Arc} {flow price:List Int} {k:Nat} (hv:RInv arcs flow price k) (hk:k<arcs.length) (h:(arcs[k].cost+price.getD arcs[k].from_.toNat 0-price.getD arcs[k].to.toNat 0<0→arcs[k].cap≤flow.getD k 0)∧(0<arcs[k].cost+price.getD arcs[k].from_.toNat 0-price.getD arcs[k].to.toNat 0→flow.getD k 0≤0)):RInv arcs flow price (k+1):=by
 refine ⟨fun j hj h2=>?_⟩
 by_cases h6:j=k
 ·subst h6;exact h
 ·exact hv.h j hj (by omega)
end Go.Fx.P.K
namespace Go.Fx.P.K
open Go Go.Fx Go.Fx.E Go.Proofs
set_option maxRecDepth 20000
structure OkS (n:Int) (cut:List Int) (k:Nat):Prop where
 h:∀ j (h:j<cut.length),j<k→(0≤cut[j]∧cut[j]<n)∧(0<j→cut.getD (j-1) 0<cut[j])
theorem OkS.next {n:Int} {cut:List Int} {k:Nat} (hv:OkS n cut k) (hk:k<cut.length) (h:(0≤cut[k]∧cut[k]<n)∧(0<k→cut.getD (k-1) 0<cut[k])):OkS n cut (k+1):=by
 refine ⟨fun j hj h2=>?_⟩
 by_cases h6:j=k
 ·subst h6;exact h
 ·exact hv.h j hj (by omega)
structure OkA (arcs:List Arc) (flow:List Int) (cut:List Int) (k:Nat):Prop where
 h:∀ j (h:j<arcs.length),j<k→(hasB cut arcs[j].from_=true→hasB cut arcs[j].to=false→flow.getD j 0=arcs[j].cap)∧(hasB cut arcs[j].to=true→hasB cut arcs[j].from_=false→flow.getD j 0=0)
theorem OkA.next {arcs:List Arc} {flow cut:List Int} {k:Nat} (hv:OkA arcs flow cut k) (hk:k<arcs.length) (h:(hasB cut arcs[k].from_=true→hasB cut arcs[k].to=false→flow.getD k 0=arcs[k].cap)∧(hasB cut arcs[k].to=true→hasB cut arcs[k].from_=false→flow.getD k 0=0)):OkA arcs flow cut (k+1):=by
 refine ⟨fun j hj h2=>?_⟩
 by_cases h6:j=k
 ·subst h6;exact h
 ·exact hv.h j hj (by omega)
structure OkC (n:Int) (arcs:List Arc) (f t:Int) (flow cut:List Int):Prop where
 hs:OkS n cut cut.length
 hf:hasB cut f=true
 ht:hasB cut t=false
 ha:OkA arcs flow cut arcs.length
open Classical in
noncomputable def cuB (n:Int) (arcs:List Arc) (f t:Int) (flow cut:List Int):Bool:=decide (OkC n arcs f t flow cut)
theorem Wx {n:Int} {arcs:List Arc} {f t:Int} {flow cut:List Int} (h:OkC n arcs f t flow cut):true=cuB n arcs f t flow cut:=by simp [cuB,h]
theorem Gq {n:Int} {arcs:List Arc} {f t:Int} {flow cut:List Int} (h:¬OkC n arcs f t flow cut):false=cuB n arcs f t flow cut:=by simp [cuB,h]
def frB (fr:Fr):Blk:=.var [.i fr.sent,.i fr.cost,.ro 1 (fr.flow.map encI),.ro 1 (fr.price.map encI),.ro 1 (fr.cut.map encI)]
structure OkAc (N:Nat) (arcs:List Arc) (f t am:Int) (fr:Fr):Prop where
 fl:OkF N arcs f t fr.flow
 hs:0≤fr.sent∧fr.sent≤am
 hv:valTo arcs f fr.flow arcs.length=fr.sent
 ht:dU arcs fr.flow arcs.length=fr.cost
 hp:OkP N arcs f fr.flow fr.price
 hc:if fr.sent=am then fr.cut=[] else OkC N arcs f t fr.flow fr.cut
open Classical in
noncomputable def accI (N:Nat) (arcs:List Arc) (f t am:Int) (fr:Fr):Int:=if OkAc N arcs f t am fr then 0 else 110
theorem Sl {N:Nat} {arcs:List Arc} {f t am:Int} {fr:Fr} (h:OkAc N arcs f t am fr):0=accI N arcs f t am fr:=by simp [accI,h]
theorem pX {N:Nat} {arcs:List Arc} {f t am:Int} {fr:Fr} (h:¬OkAc N arcs f t am fr):110=accI N arcs f t am fr:=by simp [accI,h]
end Go.Fx.P.K
namespace Go.Fx.P
open Go Go.Fx Go.Fx.E Go.Proofs
set_option maxRecDepth 20000
def nN (ps:List aG):Nat:=2+2*ps.length
theorem Ku (ps:List aG):lR ps=(nN ps:Int):=by simp only [lR,nN];omega
theorem Dc {ps:List aG} {rs:List Road} (h:fI ps rs=0):K.Val (nN ps) (cC ps rs):=by
 obtain ⟨⟨hl,hr⟩,hc,hv⟩:=g0 h
 have hlen:=vM (ps:=ps) (l:=rs)
 refine ⟨by simp only [nN];omega,by simp only [cC];omega,fun a ha=>?_⟩
 simp only [cC,nA4,nA3,nA2,nA1,ybL,yaH,ybk] at ha
 simp only [nN]
 rcases ha with ((⟨i,hi,rfl⟩|⟨i,hi,rfl⟩)|⟨i,hi,rfl⟩)|⟨r,hr2,rfl⟩
 ·have:=vU hc i
  simp only [aP];omega
 ·have:=vU hc i
  have:=rU hi
  simp only [aS];omega
 ·have:=vU hc i
  have:=rU hi
  simp only [aO];omega
 ·obtain ⟨j,hj,rfl⟩:=ybi hr2
  obtain ⟨h1,h2,h3,h4,h5,_⟩:=hv.h j hj hj
  simp only [aR];omega
def aeQ (ps:List aG) (rs:List Road):Prop:=fI ps rs=0∧ps.length≤10∧rs.length≤25
open Classical in
noncomputable def abS (ps:List aG) (rs:List Road) (fr:Fr):Int:=if fI ps rs=0 then K.accI (nN ps) (cC ps rs) 0 1 (dem ps) fr else fI ps rs
theorem ahS (ps:List aG) (rs:List Road) (fr:Fr) (i:Nat) (hi:i<ps.length) (hl:ps.length≤fr.flow.length):Ok 31 [bG ps rs,fr.enc,.i i] (Is (.i (fr.flow.getD i 0))):=by
 refine ok_of lw31 (by simp) ?_
 unfold c31 bG sps rds Fr.enc li
 simp -implicitDefEqProofs only [rX,↓rY,aA,cells?,↓reduceIte,Nat.reduceEqDiff,Nat.reduceAdd,reduceCtorEq,aC,aT,aV,wfV,yac,cP,yaa,cxN,aK]
 simp only [br,decide_eq_true_eq,decide_eq_false_iff_not,yaa]
 have e:fr.flow.getD i 0=fr.flow[i]'(by omega):=by rw [yag,yal (by omega),yaw]
 rw [yag] at e
 rw [e]
 exact ⟨fun h=>absurd h (by omega),fun _ _=>⟨fun h=>absurd h (by omega),fun _=>⟨⟨by omega,by omega⟩,by omega,rfl⟩⟩⟩
structure lD (ps:List aG) (rs:List Road) (fr:Fr):Prop where
 chk:fI ps rs=0
 few:ps.length≤10∧rs.length≤25
 acc:K.OkAc (nN ps) (cC ps rs) 0 1 (dem ps) fr
theorem lD.of {ps:List aG} {rs:List Road} {fr:Fr} (h:aeQ ps rs) (h2:abS ps rs fr=0):lD ps rs fr:=by
 refine ⟨h.1,h.2,?_⟩
 rw [abS,if_pos h.1,K.accI] at h2
 by_cases h3:K.OkAc (nN ps) (cC ps rs) 0 1 (dem ps) fr
 ·exact h3
 ·rw [if_neg h3] at h2;cases h2
end Go.Fx.P
namespace Go.Fx.P.K
open Go Go.Fx Go.Fx.E Go.Proofs
set_option maxRecDepth 20000
def nU (N:Nat) (f:Int→Int):List (List V):=(yam N).map fun j:Nat=>encI (f j)
theorem rH {N:Nat} {f:Int→Int}:(nU N f).length=N:=by simp [nU]
theorem xF {N:Nat} {f:Int→Int} {i:Nat} (h:i<(nU N f).length):(nU N f)[i]=encI (f i):=by simp [nU]
theorem Oz {N:Nat} {f:Int→Int} {i:Nat} {x:Int}:(nU N f).set i [.v (.int .i64 x)]=nU N (fun j=>if j=i then x else f j):=by
 apply yaD
 ·simp [nU]
 ·intro j h1 h2
  simp only [ybD,xF]
  by_cases h:i=j
  ·subst h;simp [encI]
  ·have:¬(j:Int)=i:=by omega
   simp [h,this]
theorem Ia {N:Nat} {f g:Int→Int} (h:∀ i:Nat,i<N→f i=g i):nU N f=nU N g:=by
 simp only [nU,List.map_inj_left,ybk]
 intro i hi
 rw [h i hi]
theorem Pa {N:Nat} {x:Int}:yad N [V.v (.int .i64 x)]=nU N (fun _=>x):=by
 apply yaD
 ·simp [nU]
 ·intro i h1 h2
  simp [nU,encI]
def nV (N:Nat) (f:Int→Bool):List (List V):=(yam N).map fun j:Nat=>u9 (f j)
theorem Ev {N:Nat} {f:Int→Bool}:(nV N f).length=N:=by simp [nV]
theorem xG {N:Nat} {f:Int→Bool} {i:Nat} (h:i<(nV N f).length):(nV N f)[i]=u9 (f i):=by simp [nV]
theorem Pb {N:Nat} {f:Int→Bool} {i:Nat} {x:Bool}:(nV N f).set i [.v (.bool x)]=nV N (fun j=>if j=i then x else f j):=by
 apply yaD
 ·simp [nV]
 ·intro j h1 h2
  simp only [ybD,xG]
  by_cases h:i=j
  ·subst h;simp [u9]
  ·have:¬(j:Int)=i:=by omega
   simp [h,this]
theorem Ib {N:Nat} {f g:Int→Bool} (h:∀ i:Nat,i<N→f i=g i):nV N f=nV N g:=by
 simp only [nV,List.map_inj_left,ybk]
 intro i hi
 rw [h i hi]
theorem Pc {N:Nat} {x:Bool}:yad N [V.v (.bool x)]=nV N (fun _=>x):=by
 apply yaD
 ·simp [nV]
 ·intro i h1 h2
  simp [nV,u9]
theorem mH (arcs:List Arc) (node:Int) (flow:List Int):∀ k:Nat,(∀ j,j<k→0≤flow.getD j 0∧flow.getD j 0≤1073741824)→-((k:Int)*1073741824)≤valTo arcs node flow k∧valTo arcs node flow k≤(k:Int)*1073741824
 | 0,_=>by simp [valTo]
 | k+1,hf=>by
  have h1:=mH arcs node flow k fun j hj=>hf j (by omega)
  have h2:=hf k (by omega)
  simp only [valTo]
  split<;>split<;>omega
theorem rC (arcs:List Arc) (flow:List Int) (ha:∀ a∈arcs,0≤a.cost∧a.cost≤1048576):∀ k:Nat,(∀ j,j<k→0≤flow.getD j 0∧flow.getD j 0≤1073741824)→0≤dU arcs flow k∧dU arcs flow k≤(k:Int)*1125899906842624
 | 0,_=>by simp [dU]
 | k+1,hf=>by
  have h1:=rC arcs flow ha k fun j hj=>hf j (by omega)
  have h2:=hf k (by omega)
  have h3:0≤(arcs.getD k ⟨0,0,0,0⟩).cost∧(arcs.getD k ⟨0,0,0,0⟩).cost≤1048576:=by
   rw [yag]
   cases h:arcs[k]? with
   | none=>simp
   | some x=>exact ha x (ybW h)
  have:=Kx h2 h3
  simp only [dU]
  omega
open Classical in
noncomputable def Ao (n:Int) (arcs:List Arc) (f t:Int) (fr:Fr):Bool:=decide (OkF n arcs f t fr.flow∧valTo arcs f fr.flow arcs.length=fr.sent∧dU arcs fr.flow arcs.length=fr.cost)
theorem Zn {n:Int} {arcs:List Arc} {f t:Int} {fr:Fr} (h:OkF n arcs f t fr.flow∧valTo arcs f fr.flow arcs.length=fr.sent∧dU arcs fr.flow arcs.length=fr.cost):Ao n arcs f t fr=true:=by simp [Ao,h]
theorem yQ {n:Int} {arcs:List Arc} {f t:Int} {fr:Fr} (h:¬(OkF n arcs f t fr.flow∧valTo arcs f fr.flow arcs.length=fr.sent∧dU arcs fr.flow arcs.length=fr.cost)):Ao n arcs f t fr=false:=by simp only [Ao,h,decide_false]
structure aeL (arcs:List Arc) (f t s:Int) (flow:List Int) (k:Nat):Prop where
 h:∀ j:Nat,j<k→((j:Int)≠f→(j:Int)≠t→valTo arcs j flow arcs.length=0)∧((j:Int)=f→valTo arcs j flow arcs.length=s)
theorem agR (N:Nat) (arcs:List Arc) (f t:Int) (fr:Fr) (hV:Val N arcs) (hf:0≤f∧f<N):Ok 93 [net N arcs,.i f,.i t,fr.enc] (Is (.b (Ao N arcs f t fr))):=by
 refine ok_of lw93 (by simp) ?_
 unfold c93 net Fr.enc li
 have hL:=hV.hl
 have hN:=hV.hn
 have hac:=fun a ha=>(hV.ha a ha).2.2.2.2
 simp -implicitDefEqProofs only [rX,↓rY,aA,cells?,↓reduceIte,Nat.reduceEqDiff,Nat.reduceAdd,reduceCtorEq,aC,aT,aV,wfV,yaa,cxN,aK]
 simp only [br,decide_eq_true_eq,decide_eq_false_iff_not,bne_iff_ne,bne_eq_false_iff_eq]
 refine fun hm1 hm2=>⟨fun h=>(yQ fun hO=>?_).symm,fun h=>⟨by omega,fun _=>?_⟩⟩
 ·have:=hO.1.hl;omega
 have hl:fr.flow.length=arcs.length:=by omega
 refine aU (fun k:Nat=>⟨[(29,.i k),(28,.i arcs.length),(27,.ro 4 (arcs.map Arc.enc)),(10,.i (dU arcs fr.flow k)),(9,.sl 2 0 N),(7,.ptr 1 0 0),(4,.ptr 0 0 0),(2,.i t),(1,.i f)],[.var [.i N,.ro 4 (arcs.map Arc.enc)],frB fr,.arr 1 (nU N (fun j=>valTo arcs j fr.flow k))],0⟩) (fun k=>k≤arcs.length∧PInv arcs fr.flow k) (fun k=>arcs.length-k) 0 ⟨by omega,⟨by simp⟩⟩ ?_ ?_
 ·have h0:nU N (fun j=>valTo arcs j fr.flow 0)=yad N [V.i 0]:=by rw [Pa];rfl
  simp -implicitDefEqProofs only [rX,↓reduceIte,Nat.reduceEqDiff,reduceCtorEq,leE,leH,leB,leV,bB,aD,aB,wfE,wfB,wfV,wfL,bB,leV,yaj,frB,h0,dU]
 rintro k ⟨hk,hv⟩
 simp -implicitDefEqProofs only [rX,↓rY,aA,cells?,splice,↓reduceIte,Nat.reduceEqDiff,cR,Nat.reduceAdd,aC,aT,aV,leE,leH,leB,leV,bB,aD,aB,wfE,wfB,wfV,wfL,isD,isC,yac,enc_len,eV,oG,oF,sB,uP,fG,cP,yaa,e7,frB,rH,xF,Oz]
 simp only [br,decide_eq_true_eq,decide_eq_false_iff_not]
 refine ⟨fun h2=>?_,fun h2=>?_⟩
 ·have hk1:k<arcs.length:=by omega
  have hk2:k<fr.flow.length:=by omega
  have hva:=hV.ha arcs[k] (yat hk1)
  have bad:¬(0≤fr.flow[k]∧fr.flow[k]≤arcs[k].cap)→false=Ao N arcs f t fr:=fun h=>(yQ fun hO=>h (hO.1.hp k hk2 hk1)).symm
  have good:(0≤fr.flow[k]∧fr.flow[k]≤arcs[k].cap)→PInv arcs fr.flow (k+1):=by
   refine fun hx=>⟨fun j h3 h4 h5=>?_⟩
   by_cases h6:j=k
   ·subst h6;exact hx
   ·exact hv.h j h3 h4 (by omega)
  have hfb:∀ j,j<k→0≤fr.flow.getD j 0∧fr.flow.getD j 0≤1073741824:=by
   intro j hj
   have h1:=hv.h j (by omega) (by omega) hj
   have h3:=hV.ha arcs[j] (yat _)
   rw [bX (by omega)]
   omega
  have hb1:=mH arcs arcs[k].from_ fr.flow k hfb
  have hb2:=mH arcs arcs[k].to fr.flow k hfb
  have hb3:=rC arcs fr.flow hac k hfb
  have e1:((arcs[k].from_.toNat:Nat):Int)=arcs[k].from_:=by omega
  have e2:((arcs[k].to.toNat:Nat):Int)=arcs[k].to:=by omega
  have e3:¬arcs[k].to=arcs[k].from_:=by omega
  refine ⟨⟨by omega,h2⟩,by omega,⟨by omega,by omega⟩,by omega,fun h3=>bad (by omega),fun h3=>⟨fun h4=>bad (by omega),fun h4=>?_⟩⟩
  have hfk:0≤fr.flow[k]∧fr.flow[k]≤1073741824:=by omega
  have hmb:=Kx hfk hva.2.2.2.2
  have hst:=v7 hk1 hk2
  simp only [e1,e2,e3,if_false,lo,hi,rH]
  repeat' (first|(refine ⟨(k+1:_),?_⟩)|(refine ⟨by omega,?_⟩)|(refine And.intro ?_ ?_)|(refine (fun _=>?_)))
  all_goals first|omega|(apply good;omega)|skip
  congr 1
  apply Ia
  intro i hi
  simp only [Hl (node:=i) hk1 hk2]
  grind
 have hp:Pn arcs fr.flow:=fun i h3 h4=>hv.h i h3 h4 (by omega)
 have hk0:k=arcs.length:=by omega
 subst hk0
 refine fun _=>aU (fun k:Nat=>⟨[(72,.i k),(71,.i N),(70,.sl 2 0 N),(10,.i (dU arcs fr.flow arcs.length)),(7,.ptr 1 0 0),(2,.i t),(1,.i f)],[.dead,frB fr,.arr 1 (nU N (fun j=>valTo arcs j fr.flow arcs.length))],0⟩) (fun k=>k≤N∧aeL arcs f t fr.sent fr.flow k) (fun k=>N-k) 0 ⟨by omega,⟨by simp⟩⟩ ?_ ?_
 ·simp -implicitDefEqProofs only [rX,↓reduceIte,Nat.reduceEqDiff,leE,leH,leB,leV,bB,aD,aB,wfE,wfB,wfV,wfL,bB,leV,yaj,frB]
 rintro k ⟨hk,hv⟩
 simp -implicitDefEqProofs only [rX,↓rY,aA,↓reduceIte,Nat.reduceEqDiff,cR,Nat.reduceAdd,aT,aV,leE,leH,leB,leV,bB,aD,aB,wfE,wfB,wfV,wfL,cP,yaa,frB,rH,xF]
 simp only [br,decide_eq_true_eq,decide_eq_false_iff_not,bne_iff_ne,bne_eq_false_iff_eq,beq_iff_eq,beq_eq_false_iff_ne]
 refine ⟨fun h3=>?_,fun h3=>?_⟩
 ·have h4:k<N:=by omega
  have bad1:(k:Int)=f→valTo arcs k fr.flow arcs.length≠fr.sent→false=Ao N arcs f t fr:=fun h h5=>(yQ fun hO=>h5 (by rw [h];exact hO.2.1)).symm
  have bad2:(k:Int)≠f→(k:Int)≠t→valTo arcs k fr.flow arcs.length≠0→false=Ao N arcs f t fr:=fun h h5 h6=>(yQ fun hO=>h6 (hO.1.hz k (by omega) (by omega) h h5)).symm
  have good:((k:Int)≠f→(k:Int)≠t→valTo arcs k fr.flow arcs.length=0)∧((k:Int)=f→valTo arcs k fr.flow arcs.length=fr.sent)→aeL arcs f t fr.sent fr.flow (k+1):=by
   refine fun h5=>⟨fun j hj=>?_⟩
   by_cases h6:j=k
   ·subst h6;exact h5
   ·exact hv.h j (by omega)
  simp only [lo,hi,maxLen,rH] at *
  repeat' (first|(refine ⟨(k+1:_),?_⟩)|(refine ⟨by omega,?_⟩)|(refine And.intro ?_ ?_)|(refine (fun _=>?_)))
  all_goals first|omega|exact bad1 ‹_› ‹_›|exact bad2 ‹_› ‹_› ‹_›|(exact good ⟨fun _ _=>by first|assumption|omega,fun _=>by first|assumption|omega⟩)
 ·have hOF:OkF N arcs f t fr.flow:=⟨hl,hp,fun j h1 h2 h4 h6=>by
   have:=(hv.h j.toNat (by omega)).1
   rw [ybE h1] at this
   exact this h4 h6⟩
  have hval:valTo arcs f fr.flow arcs.length=fr.sent:=by
   have:=(hv.h f.toNat (by omega)).2
   rw [ybE hf.1] at this
   exact this rfl
  by_cases hc:dU arcs fr.flow arcs.length=fr.cost<;>simp [Ao,hOF,hval,hc]
end Go.Fx.P.K
namespace Go.Fx.P.K
open Go Go.Fx Go.Fx.E Go.Proofs
def sm (g:Nat→Int):Nat→Int
 | 0=>0
 | n+1=>sm g n+g n
theorem Cs:∀ n,sm (fun _=>0) n=0
 | 0=>rfl
 | n+1=>by simp [sm,Cs n]
theorem rE {g h:Nat→Int}:∀ n,(∀ v,v<n→g v=h v)→sm g n=sm h n
 | 0,_=>rfl
 | n+1,hh=>by simp only [sm];rw [rE n fun v hv=>hh v (by omega),hh n (by omega)]
theorem Ht (g h:Nat→Int):∀ n,sm (fun v=>g v+h v) n=sm g n+sm h n
 | 0=>rfl
 | n+1=>by simp only [sm,Ht g h n];omega
theorem Oq (g h:Nat→Int):∀ n,sm (fun v=>g v-h v) n=sm g n-sm h n
 | 0=>rfl
 | n+1=>by simp only [sm,Oq g h n];omega
theorem Ot {g h:Nat→Int}:∀ n,(∀ v,v<n→g v≤h v)→sm g n≤sm h n
 | 0,_=>Int.le_refl _
 | n+1,hh=>by
  have:=Ot n fun v hv=>hh v (by omega)
  have:=hh n (by omega)
  simp only [sm];omega
theorem sX (a:Nat) (c:Int):∀ n,sm (fun v=>if v=a then c else 0) n=if a<n then c else 0
 | 0=>by simp [sm]
 | n+1=>by
  simp only [sm,sX a c n]
  by_cases h:a=n
  ·subst h;simp
  ·have h2:¬n=a:=fun e=>h e.symm
   rw [if_neg h2]
   by_cases h3:a<n
   ·rw [if_pos h3,if_pos (by omega)];omega
   ·rw [if_neg h3,if_neg (by omega)];omega
theorem Xv {g:Nat→Int} {a b:Nat} (hab:a≠b) {n:Nat} (ha:a<n) (hb:b<n) (h:∀ v,v<n→v≠a→v≠b→g v=0):sm g n=g a+g b:=by
 have:sm g n=sm (fun v=>(if v=a then g a else 0)+(if v=b then g b else 0)) n:=by
  refine rE n fun v hv=>?_
  by_cases h1:v=a
  ·subst h1
   rw [if_pos rfl,if_neg hab];omega
  ·rw [if_neg h1]
   by_cases h2:v=b
   ·subst h2;rw [if_pos rfl];omega
   ·rw [if_neg h2,h v hv h1 h2];rfl
 rw [this,Ht,sX,sX,if_pos ha,if_pos hb]
abbrev gA (arcs:List Arc) (k:Nat):Arc:=arcs.getD k ⟨0,0,0,0⟩
theorem gA_at {arcs:List Arc} {k:Nat} (h:k<arcs.length):gA arcs k=arcs[k]:=by
 unfold gA
 rw [yag,yal h];rfl
theorem Val.at {N:Nat} {arcs:List Arc} (hV:Val N arcs) {k:Nat} (hk:k<arcs.length):(0≤(gA arcs k).from_∧(gA arcs k).from_<N)∧(0≤(gA arcs k).to∧(gA arcs k).to<N)∧(gA arcs k).from_≠(gA arcs k).to∧(0≤(gA arcs k).cap∧(gA arcs k).cap≤1073741824)∧0≤(gA arcs k).cost∧(gA arcs k).cost≤1048576:=by
 rw [gA_at hk]
 exact hV.ha arcs[k] (yat hk)
theorem pot {N:Nat} {arcs:List Arc} (hV:Val N arcs) (fl:List Int) (p:Nat→Int):∀ k,k≤arcs.length →
  sm (fun v=>p v*valTo arcs v fl k) N=sm (fun j=>fl.getD j 0*(p (gA arcs j).from_.toNat-p (gA arcs j).to.toNat)) k
 | 0,_=>by
  simp only [valTo,ybl]
  rw [Cs];rfl
 | k+1,hk=>by
  have ih:=pot hV fl p k (by omega)
  have hv:=hV.at (show k<arcs.length by omega)
  have e:sm (fun v=>p v*valTo arcs v fl (k+1)) N=sm (fun v=>(p v*valTo arcs v fl k+(if v=(gA arcs k).from_.toNat then p (gA arcs k).from_.toNat*fl.getD k 0 else 0))-(if v=(gA arcs k).to.toNat then p (gA arcs k).to.toNat*fl.getD k 0 else 0)) N:=by
   refine rE N fun v _=>?_
   have hs:valTo arcs v fl (k+1)=valTo arcs v fl k+(if (gA arcs k).from_=v then fl.getD k 0 else 0)-(if (gA arcs k).to=v then fl.getD k 0 else 0):=rfl
   rw [hs,Int.mul_sub,Int.mul_add]
   have e1:p v*(if (gA arcs k).from_=(v:Int) then fl.getD k 0 else 0)=if v=(gA arcs k).from_.toNat then p (gA arcs k).from_.toNat*fl.getD k 0 else 0:=by
    by_cases h:(gA arcs k).from_=v
    ·have:v=(gA arcs k).from_.toNat:=by omega
     rw [if_pos h,if_pos this,←this]
    ·have:¬v=(gA arcs k).from_.toNat:=by omega
     rw [if_neg h,if_neg this,ybl]
   have e2:p v*(if (gA arcs k).to=(v:Int) then fl.getD k 0 else 0)=if v=(gA arcs k).to.toNat then p (gA arcs k).to.toNat*fl.getD k 0 else 0:=by
    by_cases h:(gA arcs k).to=v
    ·have:v=(gA arcs k).to.toNat:=by omega
     rw [if_pos h,if_pos this,←this]
    ·have:¬v=(gA arcs k).to.toNat:=by omega
     rw [if_neg h,if_neg this,ybl]
   rw [e1,e2]
  rw [e,Oq,Ht,sX,sX,if_pos (by omega),if_pos (by omega),ih]
  simp only [sm]
  rw [Int.mul_sub,Int.mul_comm (p _),Int.mul_comm (p _)]
  omega
theorem pot_flow {N:Nat} {arcs:List Arc} (hV:Val N arcs) {f t:Int} (hf:0≤f∧f<N) (ht:0≤t∧t<N) (hft:f≠t) (fl:List Int) (h0:∀ j:Int,0≤j→j<N→j≠f→j≠t→valTo arcs j fl arcs.length=0) (p:Nat→Int) :
  sm (fun j=>fl.getD j 0*(p (gA arcs j).from_.toNat-p (gA arcs j).to.toNat)) arcs.length=(p f.toNat-p t.toNat)*valTo arcs f fl arcs.length:=by
 have two:∀ p:Nat→Int,sm (fun j=>fl.getD j 0*(p (gA arcs j).from_.toNat-p (gA arcs j).to.toNat)) arcs.length=p f.toNat*valTo arcs f fl arcs.length+p t.toNat*valTo arcs t fl arcs.length:=by
  intro p
  rw [←pot hV fl p _ (yab _),Xv (a:=f.toNat) (b:=t.toNat) (by omega) (by omega) (by omega)]
  ·rw [ybE hf.1,ybE ht.1]
  ·intro v hv h1 h2
   rw [h0 v (by omega) (by omega) (by omega) (by omega),ybl]
 have h1:=two fun _=>1
 simp only [Int.sub_self,ybl,Int.one_mul] at h1
 rw [Cs] at h1
 rw [two p,Int.sub_mul]
 have:valTo arcs t fl arcs.length=- valTo arcs f fl arcs.length:=by omega
 rw [this,Int.mul_neg]
 omega
end Go.Fx.P.K
namespace Go.Fx.P.K
open Go Go.Fx Go.Fx.E Go.Proofs
set_option maxRecDepth 20000
def Gn (i:Nat):List V:=[.i i]
def bO (arcs:List Arc) (v:Nat) (k:Nat):List Nat:=(yam k).filter fun i=>decide ((gA arcs i).from_=v∨(gA arcs i).to=v)
def iD (arcs:List Arc) (N:Nat):List (List V):=(yam N).map fun (v:Nat)=>[.ro 1 ((bO arcs v arcs.length).map Gn)]
theorem Fl {arcs:List Arc} {N:Nat}:(iD arcs N).length=N:=by simp [iD]
theorem Ps {arcs:List Arc} {N v:Nat} (h:v<(iD arcs N).length):(iD arcs N)[v]=[.ro 1 ((bO arcs v arcs.length).map Gn)]:=by simp [iD]
theorem Cm {h:List Blk}:∀ {xs:List V},(∀ x∈xs,wfV h x)→wfL h xs
 | [],_=>trivial
 | x::r,hx=>⟨hx x yaO,Cm fun y hy=>hx y (yaP _ hy)⟩
theorem vK {arcs:List Arc} {N:Nat} {h:List Blk}:wfL h (iD arcs N).flatten:=by
 refine Cm fun x hx=>?_
 rw [List.mem_flatten] at hx
 obtain ⟨l,h1,h2⟩:=hx
 unfold iD at h1
 rw [yaH] at h1
 obtain ⟨v,_,rfl⟩:=h1
 rw [List.mem_singleton] at h2
 subst h2
 trivial
theorem bV {arcs:List Arc} {N:Nat} {h:List Blk}:wfL h (iD arcs N).flatten=True:=eq_true vK
theorem fK {arcs:List Arc} {N:Nat} {M:List Nat}:(iD arcs N).map (bN M)=iD arcs N:=by
 unfold iD
 rw [ybb]
 rfl
theorem cF {arcs:List Arc} {N:Nat} {g:Nat→Option Nat}:(iD arcs N).map (cJ g)=iD arcs N:=by
 unfold iD
 rw [ybb]
 rfl
def wB (N M:Nat) (arcs:List Arc) (b c d:Nat):Blk:=.var [.i N,.ro 4 (arcs.map Arc.enc),.sl b 0 M,.sl c 0 N,.sl d 0 N]
def wH (N:Nat) (arcs:List Arc) (x p:List Int):List Blk:=[wB N x.length arcs 1 2 3,.arr 1 (x.map encI),.arv 1 (iD arcs N),.arr 1 (p.map encI)]
structure WOk (N:Nat) (arcs:List Arc) (x p:List Int):Prop where
 hV:Val N arcs
 hN:N≤64
 hx:x.length=arcs.length
 hp:p.length=N
 hb:∀ j,0≤p.getD j 0∧p.getD j 0≤1073741824
theorem Wl (N:Nat) (arcs:List Arc) (x p:List Int) (v:Int):OkN Tryz.prog 125 [.ptr 0 0 0,.i v] (wH N arcs x p) [] (IsA (.clo 146 [.ptr 4 0 0,.ptr 5 0 0]) (wH N arcs x p++[.var [.ptr 0 0 0],.var [.i v]])):=by
 refine eL pol [0,1,2,3] lw125 (by simp) ⟨trivial,trivial,trivial,trivial,trivial⟩ (by simp [wH];omega) ?_
 unfold c125 wH wB
 simp -implicitDefEqProofs only [rX,↓rY,aA,cells?,↓reduceIte,Nat.reduceEqDiff,Nat.reduceAdd,reduceCtorEq,aC,aT,aV,leH,leB,leV,bB,aD,aB,wfB,wfV,wfL,Nat.reduceLeDiff,cxN,aK,cO,bV]
theorem Wk (N:Nat) (arcs:List Arc) (x p:List Int) (v to cost:Int) (a b c:V) (hW:WOk N arcs x p) (hv:0≤v∧v<N) (ht:0≤to∧to<N) (hc:-1048576≤cost∧cost≤1048576) :
  OkN Tryz.prog 126 [.ptr 0 0 0,.i v,.agg [a,.i to,b,.i cost,c]] (wH N arcs x p) [] (IsA (.i (cost+p.getD v.toNat 0-p.getD to.toNat 0)) (wH N arcs x p)):=by
 refine eL pol [0,1,2,3] lw126 (by simp) ⟨trivial,trivial,trivial,trivial,trivial⟩ (by simp [wH];omega) ?_
 have h1:=hW.hb v.toNat
 have h2:=hW.hb to.toNat
 have hp:=hW.hp
 have hN:=hW.hN
 rw [getD_at (by omega)] at h1 h2 ⊢
 rw [getD_at (l:=p) (i:=to) (by omega)]
 unfold c126 wH wB
 simp -implicitDefEqProofs only [rX,↓rY,aA,cells?,↓reduceIte,Nat.reduceEqDiff,cR,Nat.reduceAdd,reduceCtorEq,aC,aT,aV,leH,leB,leV,bB,aD,aB,wfB,wfV,wfL,yac,cP,cxN,aK,cO,bV]
 simp only [lo,hi]
 repeat' (first|(refine ⟨(0:_),?_⟩)|(refine ⟨by omega,?_⟩)|(refine And.intro ?_ ?_)|(refine (fun _=>?_)))
 all_goals omega
end Go.Fx.P.K
namespace Go.Fx.P.K
open Go Go.Fx Go.Fx.E Go.Proofs
set_option maxRecDepth 20000
def hpB (n:Nat) (ks vs:List Int):List Blk:=[.var [.sl 1 0 n,.sl 2 0 n],.arr 1 (ks.map encI),.arr 1 (vs.map encI)]
def lE (n:Nat) (ks vs:List Int) (k v:Int):Prop:=∃ j,j<n∧ks.getD j 0=k∧vs.getD j 0=v
def sw (l:List Int) (i k:Nat):List Int:=(l.set i (l.getD k 0)).set k (l.getD i 0)
theorem iY {l:List Int} {i k:Nat}:(sw l i k).length=l.length:=by simp [sw]
theorem tO {l:List Int} {i j:Nat} {x:Int} (h:i<l.length):(l.set i x).getD j 0=if j=i then x else l.getD j 0:=by
 rw [yag,List.getElem?_set]
 by_cases e:i=j
 ·subst e;simp [h]
 ·rw [if_neg e,if_neg (Ne.symm e),yag]
theorem w4 {l:List Int} {i k j:Nat} (hi:i<l.length) (hk:k<l.length):(sw l i k).getD j 0=if j=k then l.getD i 0 else if j=i then l.getD k 0 else l.getD j 0:=by
 unfold sw
 rw [tO (by simpa using hk),tO hi]
theorem Iz {n:Nat} {ks vs:List Int} {i k:Nat} (hi:i<n) (hk:k<n) (h1:n≤ks.length) (h2:n≤vs.length) (a b:Int):lE n (sw ks i k) (sw vs i k) a b↔lE n ks vs a b:=by
 have key:∀ {ks vs:List Int},n≤ks.length→n≤vs.length→lE n (sw ks i k) (sw vs i k) a b→lE n ks vs a b:=by
  rintro ks vs h1 h2 ⟨j,hj,q1,q2⟩
  rw [w4 (by omega) (by omega)] at q1 q2
  by_cases e1:j=k
  ·rw [if_pos e1] at q1 q2;exact ⟨i,hi,q1,q2⟩
  ·rw [if_neg e1] at q1 q2
   by_cases e2:j=i
   ·rw [if_pos e2] at q1 q2;exact ⟨k,hk,q1,q2⟩
   ·rw [if_neg e2] at q1 q2;exact ⟨j,hj,q1,q2⟩
 refine ⟨key h1 h2,fun h=>?_⟩
 have e:∀ {l:List Int},n≤l.length→sw (sw l i k) i k=l:=by
  intro l hl
  apply yaD
  ·simp [iY]
  ·intro j hj1 hj2
   have g:=w4 (l:=sw l i k) (i:=i) (k:=k) (j:=j) (by rw [iY];omega) (by rw [iY];omega)
   rw [bX hj1] at g
   rw [g]
   simp only [w4 (l:=l) (show i<l.length by omega) (show k<l.length by omega)]
   have:l.getD j 0=l[j]:=bX hj2
   grind
 exact key (by rw [iY];exact h1) (by rw [iY];exact h2) (by rw [e h1,e h2];exact h)
theorem l7 {l:List Int} {i:Nat} {x:Int}:(l.map encI).set i [.v (.int .i64 x)]=(l.set i x).map encI:=by
 rw [ybH];rfl
theorem Pv (n:Nat) (ks vs:List Int) (i k:Nat) (hi:i<n) (hk:k<n) (h1:n≤ks.length) (h2:n≤vs.length):OkN Tryz.prog 145 [.ptr 0 0 0,.i i,.i k] (hpB n ks vs) [] (IsA (.tup []) (hpB n (sw ks i k) (sw vs i k))):=by
 refine eL pol [0,1,2] lw145 (by simp) ⟨trivial,trivial,trivial,trivial⟩ (by simp [hpB];omega) ?_
 unfold sw
 rw [bX (show i<ks.length by omega),bX (show i<vs.length by omega),bX (show k<ks.length by omega),bX (show k<vs.length by omega)]
 unfold c145 hpB
 simp -implicitDefEqProofs only [rX,↓rY,rdK,cells?,splice,↓reduceIte,Nat.reduceEqDiff,cR,Nat.reduceAdd,reduceCtorEq,aT,aV,leH,leB,leV,bB,aD,aB,wfB,wfV,wfL,isD,isC,yac,cP,yaa,e7,cxN,aK,cO,l7,List.length_set]
 repeat' (first|(refine ⟨(0:_),?_⟩)|(refine ⟨by omega,?_⟩)|(refine And.intro ?_ ?_)|(refine (fun _=>?_)))
 all_goals first|omega|rfl|simp
end Go.Fx.P.K
namespace Go.Fx.P.K
open Go Go.Fx Go.Fx.E Go.Proofs
set_option maxRecDepth 20000
structure nP (n:Nat) (ks vs:List Int) (key val:Int) (g:List Int × List Int):Prop where
 h1:g.1.length=n+1
 h2:g.2.length=n+1
 he:∀ a b,lE (n+1) g.1 g.2 a b↔(lE n ks vs a b∨(a=key∧b=val))
theorem Rj {n:Nat} {ks vs:List Int} (h1:n≤ks.length) (h2:n≤vs.length) (key val a b:Int):lE (n+1) (ks.take n++[key]) (vs.take n++[val]) a b↔(lE n ks vs a b∨(a=key∧b=val)):=by
 have hg:∀ {l:List Int} {x:Int} {j:Nat},n≤l.length→(l.take n++[x]).getD j 0=if j<n then l.getD j 0 else if j=n then x else 0:=by
  intro l x j hl
  rw [yag]
  by_cases e:j<n
  ·rw [if_pos e,ybt (by rw [yas];omega),List.getElem?_take_of_lt e,yag]
  ·rw [if_neg e,ybr (by rw [yas];omega),yas,ybo hl]
   by_cases e2:j=n
   ·subst e2;simp
   ·rw [if_neg e2,ych (by simp;omega)];rfl
 constructor
 ·rintro ⟨j,hj,q1,q2⟩
  rw [hg h1] at q1
  rw [hg h2] at q2
  by_cases e:j<n
  ·rw [if_pos e] at q1 q2;exact .inl ⟨j,e,q1,q2⟩
  ·rw [if_neg e,if_pos (by omega)] at q1 q2;exact .inr ⟨q1.symm,q2.symm⟩
 ·rintro (⟨j,hj,q1,q2⟩|⟨rfl,rfl⟩)
  ·exact ⟨j,by omega,by rw [hg h1,if_pos hj];exact q1,by rw [hg h2,if_pos hj];exact q2⟩
  ·exact ⟨n,by omega,by rw [hg h1,if_neg (by omega),if_pos rfl],by rw [hg h2,if_neg (by omega),if_pos rfl]⟩
theorem Wd {i:Nat} (h:0<i):((i:Int)-1).tdiv 2=(((i-1)/2:Nat):Int):=by
 rw [Int.tdiv_eq_ediv_of_nonneg (by omega)]
 omega
abbrev Fi (n:Nat) (g:Nat × List Int × List Int):St:=⟨[(6,.i g.1),(0,.ptr 0 0 0)],hpB (n+1) g.2.1 g.2.2,0⟩
theorem aaC (n:Nat) (ks vs:List Int) (key val:Int) (hn:n≤8796093022208) {RR:St→Prop} {X:Nat→St→Prop} (hX:∀ g,nP n ks vs key val g→∀ e b,X 0 ⟨e,hpB (n+1) g.1 g.2,b⟩)
  (g:Nat × List Int × List Int) (hg:g.1≤n∧nP n ks vs key val g.2) :
  aw (cxN Tryz.prog [0]) c123l0 (fun s'=>∃ g':Nat × List Int × List Int,((g'.1≤n∧nP n ks vs key val g'.2)∧g'.1<g.1)∧leS [0] s' (Fi n g')) X RR (Fi n g):=by
 obtain ⟨i,a,c⟩:=g
 obtain ⟨hi0,q1,q2,q3⟩:=hg
 simp only at hi0 q1 q2 q3
 have hex:∀ e b,X 0 ⟨e,hpB (n+1) a c,b⟩:=fun e b=>hX (a,c) ⟨q1,q2,q3⟩ e b
 unfold c123l0 Fi hpB
 unfold hpB at hex
 simp -implicitDefEqProofs only [rX,↓rY,aA,↓reduceIte,Nat.reduceEqDiff,cR,Nat.reduceAdd,reduceCtorEq,yac,cP,yaa,cxN]
 simp only [br,decide_eq_true_eq,decide_eq_false_iff_not]
 refine ⟨fun h0=>?_,fun h0=>hex _ _⟩
 rw [Wd (by omega)]
 have hi2:(i-1)/2<i:=by omega
 refine ⟨⟨by omega,by omega⟩,by omega,by simp only [lo,hi,maxLen] at *;omega,by omega,by simp only [lo,hi,maxLen] at *;omega,⟨by omega,by omega⟩,by simp;omega,fun hlt=>?_,fun _=>hex _ _⟩
 refine ⟨by simp only [lo,hi,maxLen] at *;omega,by omega,by simp only [lo,hi,maxLen] at *;omega,?_⟩
 refine cX [0,1,2] [.ptr 0 0 0,.i i,.i ((i-1)/2:Nat)] (.tup []) (.tup []) (hpB (n+1) a c) (hpB (n+1) (sw a i ((i-1)/2)) (sw c i ((i-1)/2))) (hpB (n+1) (sw a i ((i-1)/2)) (sw c i ((i-1)/2)))
  (Pv (n+1) a c i ((i-1)/2) (by omega) (by omega) (by omega) (by omega)) (by simp) rfl (by simp [aF,aJ,aW,bP,wkL,wk,pos]) (by simp [hpB]) rfl rfl ⟨trivial,trivial⟩ ?_
 unfold hpB
 simp -implicitDefEqProofs only [rX,↓rY,aA,↓reduceIte,Nat.reduceEqDiff,Nat.reduceAdd,reduceCtorEq,leE,leH,leB,leV,bB,aD,aB,wfE,wfB,wfV,wfL,yaa]
 rw [Wd (by omega)]
 refine ⟨by simp only [lo,hi,maxLen] at *;omega,by omega,by simp only [lo,hi,maxLen] at *;omega,((i-1)/2,sw a i ((i-1)/2),sw c i ((i-1)/2)),⟨⟨by show (i-1)/2≤n;omega,⟨?_,?_,fun x y=>?_⟩⟩,hi2⟩,?_⟩
 ·show (sw a i ((i-1)/2)).length=n+1
  rw [iY];exact q1
 ·show (sw c i ((i-1)/2)).length=n+1
  rw [iY];exact q2
 ·exact (Iz (by omega) (by omega) (by omega) (by omega) x y).trans (q3 x y)
 ·exact ⟨rfl,rfl,rfl⟩
theorem Ru (n:Nat) (ks vs:List Int) (key val:Int) (h1:n≤ks.length) (h2:n≤vs.length) (hn:n≤8796093022208) {RR:St→Prop} (hR:∀ g,nP n ks vs key val g→∀ e b,RR ⟨e,hpB (n+1) g.1 g.2,b⟩) :
  aw (cxN Tryz.prog [0]) c123 RR (fun _ _=>False) RR ⟨aK 0 [.ptr 0 0 0,.i key,.i val],hpB n ks vs,0⟩:=by
 unfold c123 hpB
 have t1:yai n (ks.map encI)++[[V.i key]]=(ks.take n++[key]).map encI:=by rw [yap,yaN];rfl
 have t2:yai n (vs.map encI)++[[V.i val]]=(vs.take n++[val]).map encI:=by rw [yap,yaN];rfl
 have l1:(ks.take n++[key]).length=n+1:=by simp;omega
 have l2:(vs.take n++[val]).length=n+1:=by simp;omega
 simp -implicitDefEqProofs only [rX,↓rY,rdK,aA,cells?,splice,↓reduceIte,Nat.reduceEqDiff,Nat.reduceAdd,reduceCtorEq,aC,cI,bU,bD,kill,bN,St.kill,isD,isC,Nat.reduceLT,Nat.reduceLeDiff,cxN,aK,t1,t2]
 have he:=Rj h1 h2 key val
 generalize ks.take n++[key]=ks' at *
 generalize vs.take n++[val]=vs' at *
 repeat' (first|omega|refine And.intro ?_ ?_|refine fun hm=>?_)
 all_goals first|(simp only [lo,hi,maxLen] at *;omega)|skip
 all_goals
  refine aU (Fi n) (fun g=>g.1≤n∧nP n ks vs key val g.2) (fun g=>g.1) (n,ks',vs') ⟨yab _,l1,l2,he⟩ ?_ (aaC n ks vs key val hn (fun g hg e b=>hR g hg e b))
  unfold Fi hpB
  simp -implicitDefEqProofs only [rX,↓reduceIte,reduceCtorEq,leE,leH,leB,leV,bB,aD,aB,wfE,wfB,wfV,wfL]
  omega
theorem acP (n:Nat) (ks vs:List Int) (key val:Int) (h1:n≤ks.length) (h2:n≤vs.length) (hn:n≤8796093022208) :
  OkN Tryz.prog 123 [.ptr 0 0 0,.i key,.i val] (hpB n ks vs) [1,2] (IsQ (nP n ks vs key val) (fun _=>.tup []) (fun g=>hpB (n+1) g.1 g.2)):=by
 refine eL pol [0] lw123 (by simp) ⟨trivial,trivial⟩ (by simp [hpB];omega) ?_
 refine Ru n ks vs key val h1 h2 hn fun g hg e b=>?_
 refine dO g hg ?_
 unfold hpB
 simp -implicitDefEqProofs only [rX,Nat.reduceAdd,aT,aV,leH,leB,leV,bB,aD,aB,wfB,wfV,wfL]
end Go.Fx.P.K
namespace Go.Fx.P.K
open Go Go.Fx Go.Fx.E Go.Proofs
set_option maxRecDepth 20000
theorem Rk {n:Nat} {ks vs:List Int} (hn:0<n) (a b:Int):lE n ks vs a b↔(lE (n-1) ks vs a b∨(a=ks.getD (n-1) 0∧b=vs.getD (n-1) 0)):=by
 constructor
 ·rintro ⟨j,hj,q1,q2⟩
  by_cases e:j=n-1
  ·subst e;exact .inr ⟨q1.symm,q2.symm⟩
  ·exact .inl ⟨j,by omega,q1,q2⟩
 ·rintro (⟨j,hj,q1,q2⟩|⟨q1,q2⟩)
  ·exact ⟨j,by omega,q1,q2⟩
  ·exact ⟨n-1,by omega,q1.symm,q2.symm⟩
structure Vt (n:Nat) (E:Int→Int→Prop) (ks vs:List Int):Prop where
 h1:n≤ks.length
 h2:n≤vs.length
 he:∀ a b,lE n ks vs a b↔E a b
structure Vs (n:Nat) (ks vs:List Int) (g:(Int × Int) × List Int × List Int):Prop where
 hin:lE n ks vs g.1.1 g.1.2
 h1:n-1≤g.2.1.length
 h2:n-1≤g.2.2.length
 he:∀ a b,lE n ks vs a b↔(lE (n-1) g.2.1 g.2.2 a b∨(a=g.1.1∧b=g.1.2))
def e40 (key v:Int) (last i least:Nat):Env:=[(8,.i least),(7,.i i),(6,.i last),(5,.i v),(4,.i key),(0,.ptr 0 0 0)]
def h40 (last i:Nat) (ks vs:List Int):List Blk:=hpB last ks vs++[.arr 1 [[.i (2*i+1)],[.i (2*i+2)]]]
abbrev xU (key v:Int) (last i:Nat) (ks vs:List Int) (g:Nat × Nat):St:=⟨(59,.i g.1)::(58,.i 2)::(57,.sl 3 0 2)::e40 key v last i g.2,h40 last i ks vs,0⟩
theorem Vj (key v:Int) (last i:Nat) (ks vs:List Int) (hl:last≤8796093022208) (hi0:i≤last) (h1:last≤ks.length) (h2:last≤vs.length) {RR:St→Prop} {X:Nat→St→Prop}
  (hX:∀ least:Nat,(least=i∨(i<least∧least<last))→∀ y z b,X 2 ⟨(60,y)::(59,z)::(58,.i 2)::(57,.sl 3 0 2)::e40 key v last i least,h40 last i ks vs,b⟩)
  (g:Nat × Nat) (hg:g.1≤2∧(g.2=i∨(i<g.2∧g.2<last))) :
  aw (cxN Tryz.prog [0,1,2]) c124l1 (fun s'=>∃ g':Nat × Nat,((g'.1≤2∧(g'.2=i∨(i<g'.2∧g'.2<last)))∧2-g'.1<2-g.1)∧leS [0,1,2] s' (xU key v last i ks vs g')) X RR (xU key v last i ks vs g):=by
 obtain ⟨j,least⟩:=g
 obtain ⟨hj,hleast⟩:=hg
 simp only at hj hleast
 unfold c124l1 xU e40 h40 hpB
 have hex:=hX least hleast
 unfold e40 h40 hpB at hex
 have hj3:j=0∨j=1∨j=2:=by omega
 have t1:((2:Int)*i+1).toNat=2*i+1:=by omega
 have t2:((2:Int)*i+2).toNat=2*i+2:=by omega
 rcases hj3 with rfl|rfl|rfl
 ·simp -implicitDefEqProofs only [rX,↓rY,aA,↓reduceIte,Nat.reduceEqDiff,cR,Nat.reduceAdd,reduceCtorEq,leE,leH,leB,leV,bB,aD,aB,wfE,wfB,wfV,wfL,yac,cP,yaa,cxN,yaj]
  simp only [br,decide_eq_true_eq,decide_eq_false_iff_not,lo,hi,maxLen] at *
  refine ⟨fun _=>⟨⟨by omega,by omega⟩,by simp,?_⟩,fun h=>absurd h (by decide)⟩
  simp only [Int.toNat_zero,yci,yau,qas,kZ,t1]
  refine ⟨trivial,fun hlt=>⟨⟨by omega,by omega⟩,by omega,⟨by omega,by omega⟩,by omega,fun _=>⟨by omega,(1,2*i+1),⟨⟨by simp,by right;show i<2*i+1∧2*i+1<last;omega⟩,by simp⟩,by simp,by simp⟩,fun _=>⟨by omega,(1,least),⟨⟨by simp,hleast⟩,by simp⟩,by simp,rfl⟩⟩,
   fun hge=>⟨by omega,(1,least),⟨⟨by simp,hleast⟩,by simp⟩,by simp,rfl⟩⟩
 ·simp -implicitDefEqProofs only [rX,↓rY,aA,↓reduceIte,Nat.reduceEqDiff,cR,Nat.reduceAdd,reduceCtorEq,leE,leH,leB,leV,bB,aD,aB,wfE,wfB,wfV,wfL,yac,cP,yaa,cxN,Int.natCast_one]
  simp only [br,decide_eq_true_eq,decide_eq_false_iff_not,lo,hi,maxLen] at *
  refine ⟨fun _=>⟨⟨by omega,by omega⟩,by simp,?_⟩,fun h=>absurd h (by decide)⟩
  simp only [Int.toNat_one,yci,List.getElem_cons_succ,yau,qas,kZ,t2]
  refine ⟨trivial,fun hlt=>⟨⟨by omega,by omega⟩,by omega,⟨by omega,by omega⟩,by omega,fun _=>⟨by omega,(2,2*i+2),⟨⟨by simp,by right;show i<2*i+2∧2*i+2<last;omega⟩,by simp⟩,by simp,by simp⟩,fun _=>⟨by omega,(2,least),⟨⟨by simp,hleast⟩,by simp⟩,by simp,rfl⟩⟩,
   fun hge=>⟨by omega,(2,least),⟨⟨by simp,hleast⟩,by simp⟩,by simp,rfl⟩⟩
 ·simp -implicitDefEqProofs only [rX,↓rY,aA,↓reduceIte,Nat.reduceEqDiff,cR,Nat.reduceAdd,reduceCtorEq,leE,leH,leB,leV,bB,aD,aB,wfE,wfB,wfV,wfL,Nat.reduceLT,yac,cP,yaa,cxN]
  simp only [br,decide_eq_true_eq,decide_eq_false_iff_not,lo,hi,maxLen] at *
  exact ⟨fun h=>absurd h (by decide),fun _=>hex _ _ _⟩
abbrev xT (key v:Int) (last:Nat) (g:Nat × List Int × List Int):St:=⟨[(7,.i g.1),(6,.i last),(5,.i v),(4,.i key),(0,.ptr 0 0 0)],hpB last g.2.1 g.2.2,0⟩
theorem Vi (key v:Int) (last:Nat) (E:Int→Int→Prop) (hl:last≤8796093022208) {RR:St→Prop} {X:Nat→St→Prop} (hR:∀ ks vs,Vt last E ks vs→∀ e h b,RR ⟨(3,.i v)::(2,.i key)::e,hpB last ks vs++h,b⟩)
  (g:Nat × List Int × List Int) (hg:g.1≤last∧Vt last E g.2.1 g.2.2) :
  aw (cxN Tryz.prog [0,1,2]) c124l0 (fun s'=>∃ g':Nat × List Int × List Int,((g'.1≤last∧Vt last E g'.2.1 g'.2.2)∧last-g'.1<last-g.1)∧leS [0,1,2] s' (xT key v last g')) X RR (xT key v last g):=by
 obtain ⟨i,ks,vs⟩:=g
 obtain ⟨hi0,hP⟩:=hg
 simp only at hi0 hP
 have hRp:=hR ks vs hP
 unfold hpB at hRp
 unfold c124l0 xT hpB
 simp -implicitDefEqProofs only [rX,↓rY,aA,cells?,↓reduceIte,Nat.reduceEqDiff,Nat.reduceAdd,aC,cI,isD,Nat.reduceLT,cxN]
 refine ⟨by simp only [lo,hi];omega,by simp only [lo,hi];omega,by simp only [lo,hi];omega,by simp only [lo,hi];omega,?_⟩
 intro _
 refine aU (xU key v last i ks vs) (fun g=>g.1≤2∧(g.2=i∨(i<g.2∧g.2<last))) (fun g=>2-g.1) (0,i) ⟨by simp,.inl rfl⟩ ?_ (Vj key v last i ks vs hl hi0 hP.h1 hP.h2 ?_)
 ·unfold xU e40 h40 hpB
  simp -implicitDefEqProofs only [rX,↓reduceIte,Nat.reduceEqDiff,reduceCtorEq,leE,leH,leB,leV,bB,aD,aB,wfE,wfB,wfV,wfL,yaj]
  rfl
 intro least hleast y z b
 unfold e40 h40 hpB
 simp -implicitDefEqProofs only [rX,↓rY,↓reduceIte,Nat.reduceEqDiff,Nat.reduceAdd,reduceCtorEq]
 simp only [br,beq_iff_eq,beq_eq_false_iff_ne]
 refine ⟨fun h=>hRp _ [_] _,fun h=>?_⟩
 have hne:least≠i:=by omega
 have hlt:i<least∧least<last:=by omega
 refine cX [0,1,2] [.ptr 0 0 0,.i i,.i least] (.tup []) (.tup []) (hpB last ks vs) (hpB last (sw ks i least) (sw vs i least)) (hpB last (sw ks i least) (sw vs i least)++[.arr 1 [[.i (2*i+1)],[.i (2*i+2)]]])
  (Pv last ks vs i least (by omega) (by omega) hP.h1 hP.h2) (by simp) rfl (by simp [aF,aJ,aW,bP,wkL,wk,pos]) (by simp [hpB]) rfl rfl (by simp [aD,aB,hpB]) ?_
 unfold hpB
 simp -implicitDefEqProofs only [rX,↓reduceIte,Nat.reduceEqDiff,Nat.reduceAdd,reduceCtorEq,leE,leH,leB,leV,bB,aD,aB,wfE,wfB,wfV,wfL]
 refine ⟨(least,sw ks i least,sw vs i least),⟨⟨by show least≤last;omega,⟨by rw [iY];exact hP.h1,by rw [iY];exact hP.h2,fun a b=>?_⟩⟩,by show last-least<last-i;omega⟩,rfl,rfl,rfl⟩
 exact (Iz (by omega) (by omega) hP.h1 hP.h2 a b).trans (hP.he a b)
theorem acO (n:Nat) (ks vs:List Int) (h0:0<n) (h1:n≤ks.length) (h2:n≤vs.length) (hn:n≤8796093022208) :
  OkN Tryz.prog 124 [.ptr 0 0 0] (hpB n ks vs) [] (IsQ (Vs n ks vs) (fun g=>.tup [.i g.1.1,.i g.1.2]) (fun g=>hpB (n-1) g.2.1 g.2.2)):=by
 refine eL pol [0,1,2] lw124 (by simp) ⟨trivial,trivial,trivial,trivial⟩ (by simp [hpB];omega) ?_
 unfold c124 hpB
 have hn1:((n:Int)-1)=((n-1:Nat):Int):=by omega
 simp -implicitDefEqProofs only [rX,↓rY,aA,↓reduceIte,Nat.reduceEqDiff,cR,Nat.reduceAdd,reduceCtorEq,yac,cP,cxN,aK,hn1]
 refine ⟨⟨by omega,by omega⟩,by simp;omega,⟨by omega,by omega⟩,by simp;omega,fun _=>⟨by simp only [lo,hi,maxLen] at *;omega,?_⟩⟩
 refine cX [0,1,2] [.ptr 0 0 0,.i 0,.i (n-1:Nat)] (.tup []) (.tup []) (hpB n ks vs) (hpB n (sw ks 0 (n-1)) (sw vs 0 (n-1))) (hpB n (sw ks 0 (n-1)) (sw vs 0 (n-1)))
  (Pv n ks vs 0 (n-1) (by omega) (by omega) h1 h2) (by simp) rfl (by simp [aF,aJ,aW,bP,wkL,wk,pos]) (by simp [hpB]) rfl rfl ⟨trivial,trivial,trivial,trivial⟩ ?_
 have k1:n≤(sw ks 0 (n-1)).length:=by rw [iY];exact h1
 have k2:n≤(sw vs 0 (n-1)).length:=by rw [iY];exact h2
 have g1:(sw ks 0 (n-1)).getD (n-1) 0=ks.getD 0 0:=by rw [w4 (by omega) (by omega),if_pos rfl]
 have g2:(sw vs 0 (n-1)).getD (n-1) 0=vs.getD 0 0:=by rw [w4 (by omega) (by omega),if_pos rfl]
 have hE:∀ a b,lE n ks vs a b↔(lE (n-1) (sw ks 0 (n-1)) (sw vs 0 (n-1)) a b∨(a=ks.getD 0 0∧b=vs.getD 0 0)):=by
  intro a b
  rw [←Iz (n:=n) (ks:=ks) (vs:=vs) (i:=0) (k:=n-1) (by omega) (by omega) h1 h2,Rk h0,g1,g2]
 generalize sw ks 0 (n-1)=ks1 at *
 generalize sw vs 0 (n-1)=vs1 at *
 have e1:ks.getD 0 0=ks[yax 0]'(by simp;omega):=bX (by omega)
 have e2:vs.getD 0 0=vs[yax 0]'(by simp;omega):=bX (by omega)
 rw [e1,e2] at hE
 have hin:lE n ks vs (ks[yax 0]'(by simp;omega)) (vs[yax 0]'(by simp;omega)):=⟨0,h0,e1,e2⟩
 generalize ks[yax 0]'(by simp;omega)=key at *
 generalize vs[yax 0]'(by simp;omega)=v at *
 unfold hpB
 simp -implicitDefEqProofs only [rX,↓rY,rdK,aA,cells?,splice,↓reduceIte,Nat.reduceEqDiff,cR,Nat.reduceAdd,reduceCtorEq,dN,isC,Nat.reduceLeDiff,yaa]
 refine ⟨by omega,by omega,?_⟩
 refine aU (xT key v (n-1)) (fun g=>g.1≤n-1∧Vt (n-1) (lE (n-1) ks1 vs1) g.2.1 g.2.2) (fun g=>n-1-g.1) (0,ks1,vs1) ⟨by simp,by show n-1≤ks1.length;omega,by show n-1≤vs1.length;omega,fun a b=>Iff.rfl⟩ ?_ (Vi key v (n-1) _ (by omega) fun ks' vs' hP e h b=>?_)
 ·unfold xT hpB
  simp -implicitDefEqProofs only [rX,↓reduceIte,Nat.reduceEqDiff,reduceCtorEq,leE,leH,leB,leV,bB,aD,aB,wfE,wfB,wfV,wfL,yaj]
  exact ⟨rfl,rfl⟩
 refine dO ((key,v),ks',vs') ⟨hin,hP.h1,hP.h2,fun a b=>?_⟩ ?_
 ·rw [hE a b,←hP.he a b]
 unfold hpB
 simp -implicitDefEqProofs only [rX,↓reduceIte,Nat.reduceEqDiff,Nat.reduceAdd,aT,aV,leH,leB,leV,bB,aD,aB,wfB,wfV,wfL]
end Go.Fx.P.K
namespace Go.Fx.P.K
open Go Go.Fx Go.Fx.E Go.Proofs
set_option maxRecDepth 20000
theorem aeG {k:IntKind} {a c:Int} {K:V→Prop} {x:Bool}:cM .and x k a c K=K (.v (.int k (k.wrap ((yaf k.bits a &&& yaf k.bits c).toNat:Int)))):=rfl
theorem sh_r {k:IntKind} {a c:Int} {K:V→Prop}:cQ .shr k a c K=(0≤c∧K (.v (.int k (a.fdiv (2 ^ (min c.toNat k.bits)))))):=rfl
theorem y9 {a:Nat} (h:a<4294967296):IntKind.wrap .u64 (((yaf (IntKind.bits .u64) (a:Int) &&& yaf (IntKind.bits .u64) 4294967295).toNat:Nat):Int)=(a:Int):=by
 have h1:(yaf (IntKind.bits .u64) (a:Int) &&& yaf (IntKind.bits .u64) 4294967295).toNat=a:=by
  rw [BitVec.toNat_and]
  have e1:(yaf (IntKind.bits .u64) (a:Int)).toNat=a:=by
   rw [ybz]
   show (((a:Int)%((2 ^ 64:Nat):Int)).toNat)=a
   omega
  have e2:(yaf (IntKind.bits .u64) 4294967295).toNat=2 ^ 32-1:=by decide
  rw [e1,e2,Nat.and_two_pow_sub_one_eq_mod]
  omega
 rw [h1]
 exact dR .u64 _ (by simp only [lo,hi];omega)
theorem Ov {a:Nat} (h:a<4294967296):(a:Int).fdiv (2 ^ (min (yax 32) (IntKind.bits .u64)))=0:=by
 show (a:Int).fdiv (2 ^ 32)=0
 rw [yba _ (by decide)]
 omega
theorem acF (n:Nat) (h:n<1000000):Ok 155 [.v (.int .u64 ((1:Nat):Int)),.v (.int .u64 n)] (Is (.tup [.v (.int .u64 ((0:Nat):Int)),.v (.int .u64 n)])):=by
 refine ok_of lw155 (by simp) ?_
 unfold c155
 have e1:=y9 (a:=1) (by omega)
 have e0:=y9 (a:=0) (by omega)
 have en:=y9 (a:=n) (by omega)
 have s1:=Ov (a:=1) (by omega)
 have s0:=Ov (a:=0) (by omega)
 have sn:=Ov (a:=n) (by omega)
 have m1:((1:Nat):Int)*(n:Int)=n:=by simp
 have m0:(0:Int)*(n:Int)=0:=Int.zero_mul _
 have mz:((1:Nat):Int)*0=0:=rfl
 have zz:(0:Int)*0=0:=rfl
 have za:(0:Int)+0=0:=rfl
 have ez:IntKind.wrap .u64 (((yaf (IntKind.bits .u64) (0:Int) &&& yaf (IntKind.bits .u64) 4294967295).toNat:Nat):Int)=(0:Int):=e0
 have sz:(0:Int).fdiv (2 ^ (min (yax 32) (IntKind.bits .u64)))=0:=s0
 have h32:(0:Int)≤32:=by omega
 have b0:(lo .u64≤(0:Int)∧(0:Int)≤hi .u64):=by simp only [lo,hi];omega
 have bn:(lo .u64≤(n:Int)∧(n:Int)≤hi .u64):=by simp only [lo,hi];omega
 simp -implicitDefEqProofs only [rX,↓rY,aA,↓reduceIte,Nat.reduceEqDiff,reduceCtorEq,aT,aV,wfV,wfL,cxN,aK,↓aeG,↓sh_r,e1,en,s1,sn,m1,m0,mz,zz,za,ez,sz,eq_true h32,eq_true b0,eq_true bn]
 first|rfl|trivial
theorem acI (n:Nat) (h:n<1000000):Ok 144 [.v (.int .u64 ((1:Nat):Int)),.v (.int .u64 n)] (Is (.tup [.v (.int .u64 ((0:Nat):Int)),.v (.int .u64 n)])):=by
 refine ok_of lw144 (by simp) ?_
 unfold c144
 simp -implicitDefEqProofs only [rX,↓rY,aA,↓reduceIte,Nat.reduceEqDiff,reduceCtorEq,cxN,aK]
 refine aE (acF n h) ?_ rfl trivial ?_
 ·simp [aF,aJ,aW,bP,wkL,wk,pos]
 simp -implicitDefEqProofs only [rX,↓rY,↓reduceIte,Nat.reduceEqDiff,aT,aV,wfV,wfL]
theorem Ue {n m:Nat} {x:List V}:yad n x++yad m x=yad (n+m) x:=by
 rw [List.replicate_append_replicate]
theorem acQ (N:Nat) (x:Int) (h1:1≤N) (h2:N≤1000):Ok 122 [.bro 1 [encI x],.i N] (IsA (.sl 0 0 N) [.arr 1 (yad N (encI x))]):=by
 refine ok_of lw122 (by simp) ?_
 unfold c122
 have w1:IntKind.wrap .u64 (((1:Nat):Int))=((1:Nat):Int):=dR .u64 _ (by simp only [lo,hi];omega)
 have wn:IntKind.wrap .u64 (N:Int)=N:=dR .u64 _ (by simp only [lo,hi];omega)
 have wi:IntKind.wrap .i64 (N:Int)=N:=dR .i64 _ (by simp only [lo,hi];omega)
 have hneg:decide ((N:Int)<0)=false:=decide_eq_false (by omega)
 have hz:decide ((0:Int)<((0:Nat):Int))=false:=rfl
 have hbig:decide ((9223372036854775807:Int)<(N:Int))=false:=decide_eq_false (by omega)
 have hff:(if false=true then (lo .u64≤0∧0≤hi .u64) else False)=False:=by simp
 simp -implicitDefEqProofs only [rX,↓rY,aA,↓reduceIte,Nat.reduceEqDiff,reduceCtorEq,cxN,aK,hneg]
 intro _
 simp -implicitDefEqProofs only [w1,wn]
 refine aE (acI N (by omega)) ?_ rfl trivial ?_
 ·simp [aF,aJ,aW,bP,wkL,wk,pos,w1]
 simp -implicitDefEqProofs only [rX,↓rY,aA,↓reduceIte,Nat.reduceEqDiff,reduceCtorEq,aC,yaa,hz,hbig,wi]
 refine ⟨⟨⟨by omega,by omega⟩,by omega,by omega⟩,?_⟩
 have hmin:min 1 N=1:=by omega
 refine aU (fun n:Nat=>⟨[(8,.i n),(7,.sl 0 0 N)],[.arr 1 (yad n (encI x)++yad (N-n) (encI 0))],0⟩) (fun n=>1≤n∧n≤N) (fun n=>N-n) 1 (by omega) ?_ ?_
 ·simp -implicitDefEqProofs only [rX,↓reduceIte,Nat.reduceEqDiff,leE,leH,leB,aD,aB,wfE,wfB,wfV,hmin]
  have:yai N [encI x]=[encI x]:=yae (by simp;omega)
  rw [this,ybX]
  simp
  exact .inr rfl
 rintro n ⟨hn1,hn2⟩
 simp -implicitDefEqProofs only [rX,↓rY,↓reduceIte,Nat.reduceEqDiff,cR,dN,aT,aV,leE,leH,leB,aD,aB,wfE,wfB,wfV,Nat.reduceLeDiff,yaa,cO]
 intro hmx
 simp only [br,decide_eq_true_eq,decide_eq_false_iff_not]
 refine ⟨fun h=>?_,fun h=>?_⟩
 ·have h00:yax 0=0:=rfl
  have e1:yai n (yad n (encI x)++yad (N-n) (encI 0))=yad n (encI x):=by
   rw [yaE (by simp),yae (by simp)]
  simp only [h00,Nat.sub_zero,yaS,yay,e1,yaX]
  refine ⟨⟨⟨by omega,by omega⟩,by omega⟩,⟨⟨by omega,by omega⟩,by omega,by omega⟩,by omega,.inr trivial,⟨by simp only [lo];omega,by simp only [hi];omega⟩,n+min n (N-n),⟨⟨by omega,by omega⟩,by omega⟩,by omega,?_⟩
  have e2:yaJ (n+min n (N-n)) (yad n (encI x)++yad (N-n) (encI 0))=yad (N-(n+min n (N-n))) (encI 0):=by
   rw [List.drop_append,ybX,ybX,yaX,show n-(n+min n (N-n))=0 by omega,show N-n-(n+min n (N-n)-n)=N-(n+min n (N-n)) by omega]
   rfl
  rw [e2,List.take_replicate,Ue,show min (N-n) n=min n (N-n) by omega]
 ·have:N-n=0:=by omega
  have:n=N:=by omega
  subst this
  simp
end Go.Fx.P.K
namespace Go.Fx.P.K
open Go Go.Fx Go.Fx.E Go.Proofs
set_option maxRecDepth 20000
theorem Ut {α:Type} {a b c d f:α} {l:List α} {q:Nat}:(a::b::c::d::f::l)[q+5]?=l[q]?:=rfl
theorem abB {α:Type} {a b c d f x:α} {l:List α} {q:Nat}:(a::b::c::d::f::l).set (q+5) x=a::b::c::d::f::l.set q x:=rfl
def encR (l:List Nat):List (List V):=l.map Gn
theorem sD {l:List Nat}:(encR l).length=l.length:=by simp [encR]
def gU (N:Nat) (L:Nat→List Nat):List (List V):=(yam N).map fun (v:Nat)=>[.sl (v+5) 0 (L v).length]
def dC (N:Nat) (L:Nat→List Nat):List Blk:=(yam N).map fun (v:Nat)=>.arr 1 (encR (L v))
section
variable {N:Nat} {L:Nat→List Nat}
theorem lI:(gU N L).length=N:=by simp [gU]
theorem fJ:(dC N L).length=N:=by simp [dC]
theorem lJ {v:Nat} (h:v<(gU N L).length):(gU N L)[v]=[.sl (v+5) 0 (L v).length]:=by simp [gU]
theorem rF {v:Nat} {l:List Blk} (h:v<N):(dC N L++l)[v]?=some (.arr 1 (encR (L v))):=by
 rw [ybt (by rw [fJ];exact h)]
 simp [dC,h]
theorem s4 {q:Nat} {l:List Blk}:(dC N L++l)[N+q]?=l[q]?:=by
 rw [ybr (by rw [fJ];omega),fJ];congr 1;omega
theorem xE {l:List Blk}:(dC N L++l)[N]?=l[0]?:=s4 (q:=0)
theorem sZ {q:Nat} {l:List Blk} {x:Blk}:(dC N L++l).set (N+q) x=dC N L++l.set q x:=by
 rw [ybs _ _ (by rw [fJ];omega),fJ];congr 2;omega
theorem Hy {l:List Blk} {x:Blk}:(dC N L++l).set N x=dC N L++l.set 0 x:=sZ (q:=0)
theorem Be {v:Nat} {l:List Blk} {x:Blk} (h:v<N):(dC N L++l).set v x=(dC N L).set v x++l:=by
 rw [List.set_append_left _ _ (by rw [fJ];exact h)]
theorem Hz {M:List Nat}:(dC N L).map (bD M)=dC N L:=by
 unfold dC
 rw [ybb]
 rfl
def app (L:Nat→List Nat) (v k:Nat):Nat→List Nat:=fun u=>if u=v then L u++[k] else L u
theorem pG {v:Nat} (k:Nat) (hv:v<N):((gU N L).map (bN [v+5])).set v [.sl (v+5) 0 ((L v).length+1)]=gU N (app L v k):=by
 apply yaD
 ·simp [gU]
 ·intro q h1 h2
  have hq:q<N:=by simpa [gU] using h2
  rw [ybD,lJ]
  by_cases e:v=q
  ·subst e
   simp [app]
  ·rw [if_neg e,yac,lJ]
   have:¬(q+5=v+5):=by omega
   simp [bN,kill,this,app,Ne.symm e]
theorem pH {v:Nat} (k:Nat) (hv:v<N):(dC N L).set v (.arr 1 (encR (L v)++[Gn k]))=dC N (app L v k):=by
 apply yaD
 ·simp [dC]
 ·intro q h1 h2
  have hq:q<N:=by simpa [dC] using h2
  rw [ybD]
  simp only [dC,yac,List.getElem_range]
  by_cases e:v=q
  ·subst e
   rw [if_pos rfl]
   simp [encR,app]
  ·rw [if_neg e];simp [app,Ne.symm e]
theorem Bf {Q:List Blk→Prop} (h0:Q []) (h1:∀ els r,Q r→Q (.arr 1 els::r)):Q (dC N L):=by
 have:∀ l:List Blk,(∀ b∈l,∃ els,b=.arr 1 els)→Q l:=by
  intro l
  induction l with
  | nil=>intro _;exact h0
  | cons b r ih =>
   intro h
   obtain ⟨els,rfl⟩:=h b yaO
   exact h1 _ _ (ih fun b hb=>h b (yaP _ hb))
 refine this _ fun b hb=>?_
 unfold dC at hb
 rw [yaH] at hb
 obtain ⟨v,_,rfl⟩:=hb
 exact ⟨_,rfl⟩
theorem xD {q:List Blk}:wfB q (dC N L):=Bf trivial fun _ _ h=>h
theorem s5 {l:List Blk}:leH (dC N L++l) (dC N L):=Bf (Q:=fun m=>leH (m++l) m) (by unfold leH;trivial) fun _ _ h=>⟨rfl,h⟩
theorem xC {a b c d f:Blk}:wfL (a::b::c::d::f::dC N L) (gU N L).flatten:=by
 refine Cm fun x hx=>?_
 rw [List.mem_flatten] at hx
 obtain ⟨l,h1,h2⟩:=hx
 unfold gU at h1
 rw [yaH] at h1
 obtain ⟨v,hv,rfl⟩:=h1
 rw [ybk] at hv
 rw [List.mem_singleton] at h2
 subst h2
 simp only [wfV,aB,Ut]
 have:=rF (L:=L) (l:=[]) hv
 rw [yan] at this
 rw [this]
 trivial
end
def yN (N:Nat) (arcs:List Arc) (x:List Int) (L:Nat→List Nat):List Blk :=
 .arr 1 (x.map encI)::.var [.i N,.ro 4 (arcs.map Arc.enc)]::.arv 1 (gU N L)::.arr 1 (yad N (encI 0))::wB N x.length arcs 0 2 3::dC N L
def Fk (N:Nat) (arcs:List Arc) (x:List Int) (k:Nat):St :=
 ⟨[(21,.i k),(20,.i arcs.length),(19,.ro 4 (arcs.map Arc.enc)),(5,.ptr 4 0 0),(2,.ptr 1 0 0)],yN N arcs x (fun v=>bO arcs v k),0⟩
theorem xW {arcs:List Arc} {v k:Nat}:(bO arcs v k).length≤k:=by
 have:=ycg (fun i=>decide ((gA arcs i).from_=v∨(gA arcs i).to=v)) (yam k)
 rwa [ybP] at this
theorem Ms {arcs:List Arc} {k f t:Nat} (hf:(gA arcs k).from_=f) (ht:(gA arcs k).to=t) (hft:f≠t):(fun v=>bO arcs v (k+1))=app (app (fun v=>bO arcs v k) f k) t k:=by
 funext v
 have h1:bO arcs v (k+1)=bO arcs v k++(if (gA arcs k).from_=v∨(gA arcs k).to=v then [k] else []):=by
  unfold bO
  rw [ybh,List.filter_append]
  congr 1
  by_cases h:(gA arcs k).from_=v∨(gA arcs k).to=v
  ·rw [if_pos h];simp only [List.filter_cons,ybC,h,decide_true];rfl
  ·rw [if_neg h];simp only [List.filter_cons,ybC,h,decide_false];rfl
 rw [h1,hf,ht]
 unfold app
 by_cases e1:v=t
 ·subst e1
  rw [if_pos rfl,if_neg (Ne.symm hft)]
  simp
 ·rw [if_neg e1]
  by_cases e2:v=f
  ·subst e2;simp
  ·rw [if_neg e2]
   have:¬((f:Int)=v∨(t:Int)=v):=by omega
   rw [if_neg this];simp
theorem aaF (N:Nat) (arcs:List Arc) (x:List Int) (hV:Val N arcs) {RR:St→Prop} {X:Nat→St→Prop}
  (hX:∀ e b,get e 5=.ptr 4 0 0→X 0 ⟨e,yN N arcs x (fun v=>bO arcs v arcs.length),b⟩) (k:Nat) (hk:k≤arcs.length) :
  aw (cxN Tryz.prog [0]) c89l0 (fun s'=>∃ g':Nat,(g'≤arcs.length∧arcs.length-g'<arcs.length-k)∧leS [0] s' (Fk N arcs x g')) X RR (Fk N arcs x k):=by
 have hL:=hV.hl
 have hfl:=fun v=>xW (arcs:=arcs) (k:=k) (v:=v)
 have hnext:=fun f t=>Ms (arcs:=arcs) (k:=k) (f:=f) (t:=t)
 unfold c89l0 Fk yN wB
 simp -implicitDefEqProofs only [rX,↓rY,rdK,aA,cells?,splice,↓reduceIte,Nat.reduceEqDiff,cR,Nat.reduceAdd,reduceCtorEq,aC,cI,isD,Nat.reduceLT,yac,enc_len,eV,oG,fG,yaa,cxN,Ut,abB,fJ,s4,xE,sZ,Hy,lI,yaF]
 simp only [br,decide_eq_true_eq,decide_eq_false_iff_not]
 refine ⟨fun h=>?_,fun h=>?_⟩
 ·have hk1:k<arcs.length:=by omega
  have hgk:gA arcs k=arcs[k]:=gA_at hk1
  have hva:=hV.at hk1
  rw [hgk] at hva hnext
  have hnx:=hnext arcs[k].from_.toNat arcs[k].to.toNat (by omega) (by omega) (by omega)
  have hf:arcs[k].from_.toNat<N:=by omega
  have ht:arcs[k].to.toNat<N:=by omega
  have if5:∀ (L:Nat→List Nat) (l:List Blk),(dC N L++l)[arcs[k].from_.toNat]?=some (.arr 1 (encR (L arcs[k].from_.toNat))):=fun L l=>rF hf
  have it5:∀ (L:Nat→List Nat) (l:List Blk),(dC N L++l)[arcs[k].to.toNat]?=some (.arr 1 (encR (L arcs[k].to.toNat))):=fun L l=>rF ht
  have tk:∀ l:List Nat,yai l.length (encR l)=encR l:=fun l=>yae (by rw [sD];omega)
  have ek:[V.v (Value.int IntKind.i64 (k:Int))]=Gn k:=rfl
  have ke:∀ M:List Nat,bN M arcs[k].enc=arcs[k].enc:=fun M=>rfl
  have n0:(N=arcs[k].from_.toNat)=False:=eq_false (by omega)
  have n1:(N+1=arcs[k].from_.toNat)=False:=eq_false (by omega)
  have n2:(N=arcs[k].to.toNat)=False:=eq_false (by omega)
  have n3:(N+1=arcs[k].to.toNat)=False:=eq_false (by omega)
  have n4:(arcs[k].from_.toNat=N)=False:=eq_false (by omega)
  have n5:(arcs[k].to.toNat=N)=False:=eq_false (by omega)
  have n6:(N+3=arcs[k].to.toNat)=False:=eq_false (by omega)
  have n7:(arcs[k].from_.toNat=arcs[k].to.toNat)=False:=eq_false (by omega)
  have n8:(arcs[k].to.toNat=arcs[k].from_.toNat)=False:=eq_false (by omega)
  have eN:(Gn k).length=1:=rfl
  have eD:(Gn k).all isD=true:=rfl
  have hap:∀ (L:Nat→List Nat),app L arcs[k].from_.toNat k arcs[k].to.toNat=L arcs[k].to.toNat:=fun L=>by simp [app,n8]
  have mk:∀ (L:Nat→List Nat) (M:List Nat),((gU N L).map (bN M)).length=N:=fun L M=>by rw [yao,lI]
  refine ⟨⟨by omega,h⟩,by omega,by omega,by omega,?_⟩
  simp -implicitDefEqProofs only [rX,↓rY,rdK,aA,cells?,splice,↓reduceIte,Nat.reduceEqDiff,cR,Nat.reduceAdd,reduceCtorEq,aC,cI,leE,leH,leB,leV,bB,aD,aB,wfE,wfB,wfV,wfL,bU,bD,kill,bN,St.kill,isC,Nat.reduceLT,yac,oF,Ut,abB,fJ,s4,xE,sZ,lI,lJ,yaF,if5,it5,tk,ek,mk,sD,ke,n0,n1,n2,n3,n4,n5,n6,n7,eN,eD,hap,yap,Hz,Be hf,Be ht,fun L=>pG (L:=L) k hf,fun L=>pG (L:=L) k ht,fun L=>pH (L:=L) k hf,fun L=>pH (L:=L) k ht]
  have r1:=pG (L:=app (fun v=>bO arcs v k) arcs[k].from_.toNat k) k ht
  have r2:=pH (L:=app (fun v=>bO arcs v k) arcs[k].from_.toNat k) k ht
  rw [hap] at r1 r2
  have o1:=hfl arcs[k].from_.toNat
  have o2:=hfl arcs[k].to.toNat
  refine ⟨by omega,hva.1,by omega,hva.2.1,by omega,by omega,hva.2.1,by omega,by simp only [lo,hi];omega,k+1,⟨by omega,by omega⟩,by omega,?_⟩
  rw [r1,r2,←hnx]
  exact ⟨⟨rfl,s5⟩,xC,xD⟩
 ·have hke:k=arcs.length:=by omega
  subst hke
  exact hX _ _ rfl
theorem Wf (N:Nat) (arcs:List Arc) (x:List Int) (hV:Val N arcs):OkN Tryz.prog 89 [net N arcs,.sl 0 0 x.length] [.arr 1 (x.map encI)] [] (IsA (.ptr 4 0 0) (yN N arcs x (fun v=>bO arcs v arcs.length))):=by
 refine eL pol [0] lw89 (by simp) ⟨trivial,trivial⟩ (by simp) ?_
 have hL:=hV.hl
 have hN:=hV.hn
 unfold c89 net
 simp -implicitDefEqProofs only [rX,↓rY,rdK,aA,cells?,splice,↓reduceIte,Nat.reduceEqDiff,Nat.reduceAdd,reduceCtorEq,aC,bQ,Nat.reduceLeDiff,yaa,cxN,aK]
 have hrows:∀ v,bO arcs v 0=[]:=fun v=>rfl
 have e0:dC N (fun v=>bO arcs v 0)=yad N (.arr 1 []):=by
  apply yaD
  ·simp [dC]
  ·intro q h1 h2
   simp [dC,hrows,encR]
 have hnil:Ko (yad N [V.nil]) (gU N (fun v=>bO arcs v 0)):=by
  refine ⟨by simp [lI],fun i a b h1 h2=>?_⟩
  have hi:i<N:=by
   have:=(List.getElem?_eq_some_iff.1 h1).1
   simpa using this
  have ha:a=[V.nil]:=by
   rw [List.getElem?_replicate,if_pos hi] at h1
   simpa using h1.symm
  have hb:b=[.sl (i+5) 0 0]:=by
   rw [yal (by rw [lI];exact hi),lJ] at h2
   simpa [hrows] using h2.symm
  subst ha hb
  refine ⟨rfl,fun j x y q1 q2=>?_⟩
  cases j with
  | zero =>
   simp only [yau,ybR] at q1 q2
   subst q1 q2
   exact .inr ⟨rfl,_,rfl⟩
  | succ j=>simp at q1
 have hfin:∀ e b,get e 5=.ptr 4 0 0→aw (cxN Tryz.prog [0]) ((LCode.reg 0 [{ dst:=some 63,op:=LOp.mov (Operand.tmp 5) },{ dst:=some 4,op:=LOp.mov (Operand.tmp 63) }]).seq LCode.ret)
   (eS [0] 1 [hU.tmp 4] (IsA (V.ptr 4 0 0) (yN N arcs x fun v=>bO arcs v arcs.length))) (fun x x_1=>False) (eS [0] 1 [hU.tmp 4] (IsA (V.ptr 4 0 0) (yN N arcs x fun v=>bO arcs v arcs.length))) ⟨e,yN N arcs x fun v=>bO arcs v arcs.length,b⟩:=by
  intro e b he
  have hle:=s5 (N:=N) (L:=fun v=>bO arcs v arcs.length) (l:=[])
  rw [yan] at hle
  unfold yN wB
  simp -implicitDefEqProofs only [rX,↓reduceIte,aT,aV,leH,leB,leV,bB,aD,aB,wfB,wfV,wfL,Nat.reduceLeDiff,cxN,he,cO,eq_true hle,eq_true xD,eq_true xC]
 refine ⟨⟨⟨by omega,by omega,by omega⟩,⟨by omega,by omega,by omega⟩,fun hm=>?_⟩,⟨by omega,by omega,by omega⟩,⟨by omega,by omega,by omega⟩,fun hm=>?_⟩
 all_goals
  refine fL (.virt N 1 (by decide) (.nilW 2 1 _ (gU N fun v=>bO arcs v 0) rfl hnil (.refl _))) (Fk N arcs x) (fun k=>k≤arcs.length) (fun k=>arcs.length-k) 0 (yaq _) ?_ (aaF N arcs x hV (fun e b he=>hfin e b he))
  unfold Fk yN wB
  rw [e0]
  have hle:=s5 (N:=N) (L:=fun v=>bO arcs v 0) (l:=[])
  rw [yan,e0] at hle
  have hwf:=fun q=>xD (N:=N) (L:=fun v=>bO arcs v 0) (q:=q)
  rw [e0] at hwf
  have hws:=fun a b c d f=>xC (N:=N) (L:=fun v=>bO arcs v 0) (a:=a) (b:=b) (c:=c) (d:=d) (f:=f)
  rw [e0] at hws
  simp -implicitDefEqProofs only [rX,↓reduceIte,Nat.reduceEqDiff,leE,leH,leB,leV,bB,aD,aB,wfE,wfB,wfV,wfL,yaj,eq_true hle,fun q=>eq_true (hwf q),fun a b c d f=>eq_true (hws a b c d f)]
  rfl
theorem Hx {N:Nat} {L:Nat→List Nat} {a b c d f:Blk}:(gU N L).map (gvL (fun k=>decide (5≤k)) (a::b::c::d::f::dC N L))=(yam N).map fun (v:Nat)=>[.ro 1 (encR (L v))]:=by
 apply yaD
 ·simp [gU]
 ·intro v h1 h2
  have hv:v<N:=by simpa using h2
  rw [yac,lJ]
  have hb:blk (a::b::c::d::f::dC N L) (v+5)=.arr 1 (encR (L v)):=by
   unfold blk
   have:=rF (L:=L) (l:=[]) hv
   rw [yan] at this
   rw [yag,Ut,this];rfl
  simp only [gvL,gvV,hb]
  have:yai (L v).length (encR (L v))=encR (L v):=yae (by rw [sD];omega)
  simp [sD,this]
theorem agU (N:Nat) (arcs:List Arc) (x:List Int) (hV:Val N arcs):OkN Tryz.prog 89 [net N arcs,.sl 0 0 x.length] [.arr 1 (x.map encI)] [] (IsA (.ptr 4 0 0) [.arr 1 (x.map encI),.dead,.arv 1 (iD arcs N),.arr 1 (yad N (encI 0)),wB N x.length arcs 0 2 3]):=by
 refine ⟨(Wf N arcs x hV).1,Nr [0] (by simp) (by simp) (Wf N arcs x hV).2 ?_⟩
 rintro r hs ⟨rfl,rfl⟩
 refine ⟨by simp [aD,aB,yN],_,_,⟨rfl,rfl⟩,by simp,?_⟩
 refine ⟨_,.give (fun k=>decide (5≤k)) (by simp) (.refl _),?_⟩
 have hg:=fun a b c d f=>Hx (N:=N) (L:=fun v=>bO arcs v arcs.length) (a:=a) (b:=b) (c:=c) (d:=d) (f:=f)
 have hO:((yam N).map fun (v:Nat)=>[V.ro 1 (encR (bO arcs v arcs.length))])=iD arcs N:=rfl
 unfold yN wB
 simp only [St.give,gvH,gvB,gvE,gvV]
 simp -implicitDefEqProofs only [rX,↓reduceIte,Nat.reduceAdd,leE,leH,leB,leV,bB,aD,aB,wfE,wfB,wfV,wfL,Nat.reduceLeDiff,gvL,gvV,hg,hO,bV,Nat.reduceLeDiff,decide_false]
end Go.Fx.P.K
