import Derived.Test.YtpnikndmidcedaaDoorKLow1
import Derived.Test.YtpnikndmidcedaaDoorKLow
import Derived.Sort.Walk0
import Derived.WalkKit
import Derived.BigCall
import Derived.Defers
import Derived.Recover
import Derived.Laws.Pointers
import Derived.Deep.RegionHeld3
import Derived.Deep.MidRow
import Derived.WalkSmall
import Derived.Laws.IdiomStrings
import Derived.Laws.AppendOwn
import Derived.Laws.Cover3
set_option linter.unusedVariables false
set_option linter.unusedSimpArgs false
set_option linter.unusedSectionVars false
open List renaming replicate → yaa, map → yac, range' → yae, take_of_length_le → yaf, length_append → yag, take → yah, set_cons_zero → yai, getElem?_eq_getElem → yak, map_cons → yal, setIfInBounds_toArray → yam, set_cons_succ → yan, getD_eq_getElem?_getD → yao, map_append → yap, append_assoc → yaq, append_nil → yar, drop → yas, length_map → yat, length_take → yau, length_cons → yaw, drop_of_length_le → yax, getElem?_append_right → yay, length_drop → yaA, set_append_right → yaB, getElem_map → yaC, mem_range'_1 → yaE, take_append_of_le_length → yaG, range → yaH, getElem?_append_left → yaI, length_nil → yaJ, map_take → yaL, getElem?_map → yaM, drop_left → yaN, map_map → yaO, mem_cons_self → yaP, mem_cons_of_mem → yaQ, not_mem_nil → yaR, map_nil → yaS, mem_map → yaV, nil_append → yaZ, range'_succ → yba, map_congr_left → ybb, map_drop → ybe, drop_append_of_le_length → ybf, all_cons → ybg, mem_cons → ybh, getElem?_cons_zero → ybj, reverse_cons → ybm, reverse_nil → ybn, drop_zero → ybo, drop_eq_getElem_cons → ybp, mem_map_of_mem → ybq, map_set → ybt, mem_append → ybu, cons_append → ybw, take_length → yby, drop_drop → ybA, take_succ_cons → ybB, drop_left' → ybD, take_left' → ybE, take_zero → ybI, getElem?_eq_none → ybK, replicate_succ → ybL, length_set → ybM, all_nil → ybN, flatten_cons → ybP, foldl_append → ybR, take_left → ybS, mapM_toArray → ybT, mapM_cons → ybU, mapM_nil → ybV, getElem?_range' → ybW, set_eq_take_append_cons_drop → yca, take_length_add_append → ycb, length_pos_iff → ycc, replicate_succ' → ycd, take_append_getElem → yce, flatten_append → ycf, length_singleton → ych
open BitVec renaming ofInt → yab, ofNat → yaF, toNat_ofNat → ybc, ofNat_toNat → ybr, setWidth_eq → ybs, eq_of_toNat_eq → ybH, toNat_ofInt → ybQ, ofInt_natCast → ybX, toNat_ushiftRight → ybY
open Nat renaming le_refl → yad, mul_one → yav, zero_le → yaz, zero_add → yaK, sub_self → ybi, le_trans → ybz, min_eq_left → ybG, add_assoc → ybJ, shiftRight_eq_div_pow → ybZ
open Int renaming toNat_natCast → yaj, toNat → yaD, natCast_nonneg → yaT, reduceToNat → yaY, fdiv_eq_ediv_of_nonneg → ybd, reduceLE → ybl, reduceLT → ybx, natCast_add → ybF
open Array renaming replicate → yaU, getD_eq_getD_getElem? → ybC, getElem?_setIfInBounds_ne → ycg
open Bool renaming eq_iff_iff → yaW, and_self → ybk, and_true → ybv
open Option renaming getD_some → yaX, map_some → ybO
namespace Go.Fx.K
open Go Go.Fx
abbrev W:=BitVec 32
abbrev w (x:W):V:=.v (.int .u32 (x.toNat:Int))
abbrev u8 (b:UInt8):V:=.v (.int .u8 (b.toNat:Int))
abbrev n64 (n:Nat):V:=.v (.int .u64 (n:Int))
theorem ofI (x:W):yab 32 (x.toNat:Int)=x:=by
 rw [ybX,ybr,ybs]
theorem wrapN (n:Nat):IntKind.u32.wrap (n:Int)=((yaF 32 n).toNat:Int):=by
 rw [ybc]
 simp [IntKind.wrap,IntKind.bits,IntKind.signed]
theorem Lo (x:W):IntKind.u32.wrap (x.toNat:Int)=(x.toNat:Int):=by
 rw [wrapN,ybr,ybs]
section
variable {x y:W} {K:V→Prop}
theorem Cd:bQ .add false .u32 (x.toNat:Int) (y.toNat:Int) K=K (w (x+y)):=by
 show K (.v (.int .u32 (IntKind.u32.wrap (x.toNat+y.toNat))))=_
 rw [←ybF,wrapN,BitVec.ofNat_add,ybr,ybr,ybs,ybs]
theorem oV:bQ .xor false .u32 (x.toNat:Int) (y.toNat:Int) K=K (w (x ^^^ y)):=by
 show K (.v (.int .u32 (IntKind.u32.wrap ((yab 32 (x.toNat:Int) ^^^ yab 32 (y.toNat:Int)).toNat:Int))))=_
 rw [ofI,ofI,Lo]
theorem Qb:bQ .and false .u32 (x.toNat:Int) (y.toNat:Int) K=K (w (x &&& y)):=by
 show K (.v (.int .u32 (IntKind.u32.wrap ((yab 32 (x.toNat:Int) &&& yab 32 (y.toNat:Int)).toNat:Int))))=_
 rw [ofI,ofI,Lo]
theorem Ur:bQ .or false .u32 (x.toNat:Int) (y.toNat:Int) K=K (w (x ||| y)):=by
 show K (.v (.int .u32 (IntKind.u32.wrap ((yab 32 (x.toNat:Int) ||| yab 32 (y.toNat:Int)).toNat:Int))))=_
 rw [ofI,ofI,Lo]
theorem Ya:x ^^^ (4294967295#32) = ~~~x:=by
 rw [show (4294967295#32)=BitVec.allOnes 32 from rfl,BitVec.xor_allOnes]
theorem Xr:bQ .xor false .u32 (if IntKind.signed .u32 then -1 else IntKind.max .u32) (x.toNat:Int) K=K (w (~~~x)):=by
 have h:(if IntKind.signed .u32 then -1 else IntKind.max .u32:Int)=((4294967295#32).toNat:Int):=rfl
 rw [h,oV,BitVec.xor_comm,Ya]
theorem Qa {n:Nat} (hn:n≤32):b7 .shl .u32 (x.toNat:Int) (n:Int) K=K (w (x <<< n)):=by
 have h:b7 .shl .u32 (x.toNat:Int) (n:Int) K=(0≤(n:Int)∧K (.v (.int .u32 (IntKind.u32.wrap (x.toNat*2 ^ (min (n:Int).toNat 32)))))):=rfl
 rw [h,yaj,ybG hn]
 have e:((x.toNat:Int)*2 ^ n)=((x.toNat*2 ^ n:Nat):Int):=by simp
 rw [e,wrapN]
 have e2:yaF 32 (x.toNat*2 ^ n)=x <<< n:=by
  apply ybH
  rw [ybc,BitVec.toNat_shiftLeft,Nat.shiftLeft_eq]
 rw [e2]
 exact propext ⟨fun h=>h.2,fun h=>⟨yaT n,h⟩⟩
theorem Cc {n:Nat} (hn:n≤32):b7 .shr .u32 (x.toNat:Int) (n:Int) K=K (w (x >>> n)):=by
 have h:b7 .shr .u32 (x.toNat:Int) (n:Int) K=(0≤(n:Int)∧K (.v (.int .u32 (Int.fdiv (x.toNat:Int) (2 ^ (min (n:Int).toNat 32)))))):=rfl
 rw [h,yaj,ybG hn]
 have e:Int.fdiv (x.toNat:Int) (2 ^ n)=((x >>> n).toNat:Int):=by
  have h2:(2:Int) ^ n=((2 ^ n:Nat):Int):=by simp
  rw [ybY,ybZ,h2,ybd _ (yaT _),Int.natCast_ediv]
 rw [e]
 exact propext ⟨fun h=>h.2,fun h=>⟨yaT n,h⟩⟩
end
def rr (x:W) (n:Nat):W:=(x >>> n) ||| (x <<< (32-n))
theorem aaO:∀ n:Fin 32,n.val≠0→IntKind.u64.wrap (-(n.val:Int))=18446744073709551616-n.val:=by decide
theorem aaN:∀ n:Fin 32,n.val≠0→(IntKind.u64.wrap ((yab 64 (18446744073709551616-(n.val:Int)) &&& yab 64 31).toNat:Int))=((32-n.val:Nat):Int):=by decide
structure S8 where
 a:W
 b:W
 c:W
 d:W
 e:W
 f:W
 g:W
 h:W
def S8.l (s:S8):List W:=[s.a,s.b,s.c,s.d,s.e,s.f,s.g,s.h]
def S8.enc (s:S8):List V:=[w s.a,w s.b,w s.c,w s.d,w s.e,w s.f,w s.g,w s.h]
def S8.add (s t:S8):S8:=⟨s.a+t.a,s.b+t.b,s.c+t.c,s.d+t.d,s.e+t.e,s.f+t.f,s.g+t.g,s.h+t.h⟩
def t1 (s:S8) (k x:W):W:=s.h+(rr s.e 6 ^^^ rr s.e 11 ^^^ rr s.e 25)+((s.e &&& s.f) ^^^ (~~~s.e &&& s.g))+k+x
def t2 (s:S8):W:=(rr s.a 2 ^^^ rr s.a 13 ^^^ rr s.a 22)+((s.a &&& s.b) ^^^ (s.a &&& s.c) ^^^ (s.b &&& s.c))
def S8.rnd (s:S8) (k x:W):S8:=⟨t1 s k x+t2 s,s.a,s.b,s.c,s.d+t1 s k x,s.e,s.f,s.g⟩
def kW (i:Nat):W:=yaF 32 (Gj.getD i 0)
def tJ (ws:Nat→W) (s:S8):Nat→S8
 | 0=>s
 | i+1=>(tJ ws s i).rnd (kW i) (ws i)
def B32 (b:UInt8):W:=b.toBitVec.setWidth 32
theorem aeC (b:UInt8):(B32 b).toNat=b.toNat:=by
 unfold B32
 rw [BitVec.toNat_setWidth]
 have:b.toBitVec.toNat=b.toNat:=rfl
 rw [this]
 have:=b.toNat_lt
 omega
theorem Xq {x:W} {b:UInt8} {K:V→Prop}:bQ .or false .u32 (x.toNat:Int) (b.toNat:Int) K=K (w (x ||| B32 b)):=by
 rw [show (b.toNat:Int)=((B32 b).toNat:Int) by rw [aeC],Ur]
def word (b0 b1 b2 b3:UInt8):W:=(B32 b0 <<< 24) ||| (B32 b1 <<< 16) ||| (B32 b2 <<< 8) ||| B32 b3
theorem Qq (b0 b1 b2 b3:UInt8):(((((0#32 <<< 8 ||| B32 b0) <<< 8) ||| B32 b1) <<< 8 ||| B32 b2) <<< 8 ||| B32 b3)=word b0 b1 b2 b3:=by
 unfold word
 have h:(0#32 <<< 8 ||| B32 b0)=B32 b0:=by simp
 rw [h]
 simp only [BitVec.shiftLeft_or_distrib,←BitVec.shiftLeft_add]
def wn (l:List W) (i:Nat):W:=l.getD i 0
def next (ws:List W):W :=
 let i:=ws.length
 let x:=wn ws (i-15)
 let y:=wn ws (i-2)
 wn ws (i-16)+(rr x 7 ^^^ rr x 18 ^^^ (x >>> 3))+wn ws (i-7)+(rr y 17 ^^^ rr y 19 ^^^ (y >>> 10))
def bn (bs:List UInt8) (i:Nat):UInt8:=bs.getD i 0
def rA (bs:List UInt8) (i:Nat):W:=word (bn bs (4*i)) (bn bs (4*i+1)) (bn bs (4*i+2)) (bn bs (4*i+3))
def wds (bs:List UInt8):Nat→List W
 | 0=>[]
 | i+1=>wds bs i++[if i<16 then rA bs i else next (wds bs i)]
theorem fT (bs:List UInt8):∀ i,(wds bs i).length=i
 | 0=>rfl
 | i+1=>by simp [wds,fT bs i]
def gB (bs:List UInt8) (i:Nat):List W:=wds bs i++yaa (64-i) 0
def comp (s:S8) (bs:List UInt8):S8:=s.add (tJ (fun i=>wn (wds bs 64) i) s 64)
def iv:S8:=⟨1779033703,3144134277,1013904242,2773480762,1359893119,2600822924,528734635,1541459225⟩
def ws (l:List W):List V:=l.map w
theorem As {l:List W}:(ws l).length=l.length:=by simp [ws]
theorem Yb {l:List W}:(ws l).all isC=true:=by simp [ws,isC,isD]
theorem gG {l:List W} {q:List Blk}:wfL q (ws l):=by
 unfold ws
 induction l with
 | nil=>trivial
 | cons x r ih=>exact ⟨trivial,ih⟩
theorem Qo {l:List W} {n:Nat}:(ws l).take n=ws (l.take n):=by simp [ws,yaL]
theorem Qp {l:List W} {n:Nat}:(ws l).drop n=ws (l.drop n):=by simp [ws,ybe]
theorem Ux {l:List W} {f:Nat→Option Nat}:dN f (ws l)=ws l:=by
 unfold ws
 induction l with
 | nil=>rfl
 | cons x r ih=>exact congrArg (w x::·) ih
theorem Uw {l:List W} {i:Nat} {x:W} (hi:i<l.length):(ws l).take i++w x::(ws l).drop (i+1)=ws (l.set i x):=by
 unfold ws
 rw [ybt,yca,if_pos (by simpa using hi)]
theorem Lm {l:List W} {i:Nat} {x:W} (hi:i<l.length):(ws l).take i++[w x]++(ws l).drop (i+1)=ws (l.set i x):=by
 rw [←Uw hi]
 simp
theorem y8 {l:List W} {i:Nat} (hi:i<l.length):(ws l)[i]?=some (w (wn l i)):=by
 unfold ws wn
 rw [yaM,yak hi,yao,yak hi]
 rfl
def z64:List W:=yaa 64 0
theorem tT:z64.length=64:=rfl
theorem w0:yac V.v (yaU 64 (Value.int IntKind.u32 0)).toList=ws z64:=rfl
theorem Yc {l:List W} (h:l.length=64):(ws l).take 64=ws l:=by rw [Qo,yaf (by omega)]
theorem Tw {l:List W} (h:l.length=64):(ws l).drop 64=[]:=by rw [Qp,yax (by omega)];rfl
attribute [irreducible] ws z64
def by1 (b:UInt8):List V:=[u8 b]
theorem Tl {b:UInt8}:(by1 b).length=1:=rfl
theorem Jl {b:UInt8}:(by1 b)[0]?=some (u8 b):=rfl
end Go.Fx.K
namespace Go.Fx.K
open Go Go.Fx
abbrev Bs:=List UInt8
def l9 (s:S8) (m:Bs):Nat→S8
 | 0=>s
 | k+1=>comp (l9 s m k) ((m.drop (64*k)).take 64)
theorem oW {s:S8} {m c:Bs}:∀ {k:Nat},64*k≤m.length→l9 s (m++c) k=l9 s m k
 | 0,_=>rfl
 | k+1,h=>by
  rw [l9,l9,oW (by omega),ybf (by omega),yaG (by simp;omega)]
structure Stm where
 st:S8
 blk:Bs
 n:Nat
structure Rp (S:Stm) (m:Bs):Prop where
 n:S.n=m.length
 len:S.blk.length=64
 st:S.st=l9 iv m (m.length/64)
 blk:S.blk.take (m.length%64)=m.drop (64*(m.length/64))
def i9 (blk c:Bs) (j:Nat):Bs:=blk.take j++c++blk.drop (j+c.length)
theorem Do {blk c:Bs} {j:Nat} (h:j+c.length≤blk.length):(i9 blk c j).length=blk.length:=by
 unfold i9;simp;omega
theorem Rp.step {S:Stm} {m c:Bs} (h:Rp S m) (hc:S.n%64+c.length≤64) :
  Rp ⟨if S.n%64+c.length=64 then comp S.st (i9 S.blk c (S.n%64)) else S.st,i9 S.blk c (S.n%64),S.n+c.length⟩ (m++c):=by
 have hn:=h.n
 have hl:=h.len
 have hb:=h.blk
 have hdl:(m.drop (64*(m.length/64))).length=m.length%64:=by rw [yaA];omega
 rw [hn] at hc ⊢
 have hpl:(i9 S.blk c (m.length%64)).length=64:=by rw [Do (by omega),hl]
 have htk:(i9 S.blk c (m.length%64)).take (m.length%64+c.length)=m.drop (64*(m.length/64))++c:=by
  unfold i9
  rw [hb,yaG (by rw [yag,hdl];exact yad _),yaf (by rw [yag,hdl];exact yad _)]
 by_cases h64:m.length%64+c.length=64
 ·have e1:(m++c).length/64=m.length/64+1:=by rw [yag];omega
  have e2:(m++c).length%64=0:=by rw [yag];omega
  refine ⟨by simp,hpl,?_,?_⟩
  ·simp only [if_pos h64]
   rw [e1,l9,oW (by omega),h.st]
   congr 1
   rw [ybf (by omega),←htk,h64,List.take_take,Nat.min_self,yaf (by omega)]
  ·rw [e2,e1]
   simp only [ybI]
   rw [yax (by rw [yag];omega)]
 ·have e1:(m++c).length/64=m.length/64:=by rw [yag];omega
  have e2:(m++c).length%64=m.length%64+c.length:=by rw [yag];omega
  refine ⟨by simp,hpl,?_,?_⟩
  ·simp only [if_neg h64]
   rw [e1,oW (by omega),h.st]
  ·rw [e1,e2]
   show (i9 S.blk c (m.length%64)).take _=_
   rw [htk,ybf (by omega)]
def len8 (n:Nat):Bs:=(yaH 8).map fun i=>UInt8.ofNat (8*n/2 ^ (56-8*i))
def zeros (n:Nat):Nat:=(119-n%64)%64
def pad (n:Nat):Bs:=128::(yaa (zeros n) 0++len8 n)
theorem Lh (n:Nat):(n+1+zeros n)%64=56:=by unfold zeros;omega
def Yi (m:Bs):S8:=l9 iv (m++pad m.length) ((m++pad m.length).length/64)
def Bd (s:S8) (i:Nat):UInt8:=UInt8.ofNat ((wn s.l (i/4)).toNat/2 ^ (24-8*(i%4)))
def sha (m:Bs):Bs:=(yaH 32).map (Bd (Yi m))
def sC (st:S8) (blk:Bs) (n:Nat):List V:=st.enc++(blk.map u8++[n64 n])
section
variable {s:S8} {b:Bs} {n:Nat}
theorem dU (h:b.length=64):(sC s b n).length=73:=by simp [sC,S8.enc,h]
theorem rC (h:b.length=64):(b.map u8).length=64:=by simpa using h
theorem Re (h:b.length=64):(sC s b n)[72]?=some (n64 n):=by
 unfold sC
 rw [yay (by simp [S8.enc]),yay (by simp [S8.enc,h])]
 simp [S8.enc,h]
theorem Yk:(sC s b n).take 8=s.enc:=by
 unfold sC
 rw [yaG (by simp [S8.enc]),yaf (by simp [S8.enc])]
theorem Vp {m:Nat} (h:b.length=64):(sC s b n).take 72++[n64 m]++(sC s b n).drop 73=sC s b m:=by
 rw [yax (by rw [dU h];exact yad _),yar]
 unfold sC
 rw [show (72:Nat)=s.enc.length+64 from rfl,ycb,yaG (by rw [rC h];exact yad _),yaf (by rw [rC h];exact yad _),yaq]
theorem Vo {t:S8}:t.enc++(sC s b n).drop 8=sC t b n:=by
 unfold sC
 rw [show (8:Nat)=s.enc.length from rfl,yaN]
theorem Rf {c:Bs} {j:Nat} (h:b.length=64) (hj:j+c.length≤64):(sC s b n).take (8+j)++c.map u8++(sC s b n).drop (8+j+c.length)=sC s (i9 b c j) n:=by
 unfold sC i9
 have e8:(8:Nat)=s.enc.length:=rfl
 rw [show 8+j=s.enc.length+j from rfl,ycb,ybJ,List.drop_length_add_append]
 rw [yaG (by simp;omega),ybf (by simp;omega)]
 simp [yaL,ybe,yaq]
theorem Rd (h:b.length=64):(((sC s b n).drop 8).take 64).map (fun c=>[c])=b.map by1:=by
 unfold sC
 rw [show (8:Nat)=s.enc.length from rfl,yaN,yaG (by rw [rC h];exact yad _),yaf (by rw [rC h];exact yad _),yaO]
 rfl
theorem Mo (h:b.length=64):(((sC s b n).drop 8).take 64).all isD=true:=by
 unfold sC
 rw [show (8:Nat)=s.enc.length from rfl,yaN,yaG (by rw [rC h];exact yad _),yaf (by rw [rC h];exact yad _)]
 simp [isD]
theorem Rg:(sC s b n).all isC=true:=by simp [sC,S8.enc,isC,isD]
theorem iF {q:List Blk}:wfL q (sC s b n):=by
 have:∀ l:List V,l.all isD=true→wfL q l:=by
  intro l
  induction l with
  | nil=>intro _;trivial
  | cons x r ih =>
   intro h
   simp only [ybg,Bool.and_eq_true] at h
   refine ⟨?_,ih h.2⟩
   cases x<;>simp [isD] at h<;>trivial
 exact this _ (by simp [sC,S8.enc,isD])
theorem iN (h:b.length=64):(sC s b n).take 73=sC s b n:=yaf (by rw [dU h];exact yad _)
theorem u0 (h:b.length=64):(sC s b n).drop 73=[]:=yax (by rw [dU h];exact yad _)
theorem t6 {f:Nat→Option Nat}:dN f (sC s b n)=sC s b n:=by
 have:∀ l:List V,l.all isD=true→(∀ x∈l,∃ u,x=.v u)→dN f l=l:=by
  intro l
  induction l with
  | nil=>intro _ _;rfl
  | cons x r ih =>
   intro h hx
   obtain ⟨u,rfl⟩:=hx x yaP
   simp only [ybg,Bool.and_eq_true] at h
   show V.v u::dN f r=_
   rw [ih h.2 fun y hy=>hx y (yaQ _ hy)]
 refine this _ (by simp [sC,S8.enc,isD]) ?_
 intro x hx
 simp only [sC,S8.enc,ybu,yaV,ybh,yaR,or_false] at hx
 rcases hx with (rfl|rfl|rfl|rfl|rfl|rfl|rfl|rfl)|⟨u,_,rfl⟩|rfl<;>exact ⟨_,rfl⟩
end
attribute [irreducible] sC
end Go.Fx.K

namespace Go.Fx.R
abbrev Sp:=Int × Int
def ahF (s t:Sp):List Sp:=(if min t.2 s.1≤t.1 then [] else [(t.1,min t.2 s.1)])++(if t.2≤max t.1 s.2 then [] else [(max t.1 s.2,t.2)])
def cutS (l:List Sp) (s:Sp):List Sp:=if s.2≤s.1 then l else l.flatMap (ahF s)
end Go.Fx.R
namespace Go.Fx.K
open Go Go.Fx Go.Proofs Go.Fx.R
abbrev Ok (f:FuncId) (xs:List V) (R:V→List Blk→Prop):Prop:=OkN Tryd.prog f xs [] [] R
theorem dX {f:FuncId} {l0 l:LCode} {rs:List d7} {nt:Nat} (hl:rlF Tryd.prog f l0=some (l,rs,nt)) {args:List V} {R:V→List Blk→Prop} (hlen:args.length≤nt)
  (h:aw (cxN Tryd.prog []) l (cE [] 0 rs R) (fun _ _=>False) (cE [] 0 rs R) ⟨aV 0 args,[],0⟩):Ok f args R :=
 fJ pol [] hl hlen trivial (fun k hk=>by simp at hk) h
theorem aiN {a c:Int} {K:V→Prop} {x:Bool}:bQ .and x .u64 a c K=K (.v (.int .u64 (IntKind.u64.wrap ((yab 64 a &&& yab 64 c).toNat:Int)))):=rfl
theorem afA:Cu 0 64=some tM:=by kernel_rfl
def sb (l:Bs):ByteArray:=⟨l.toArray⟩
abbrev sv (l:Bs):V:=.v (.string (sb l))
theorem e7 {l:Bs}:(sb l).size=l.length:=rfl
theorem pA {l:Bs}:(sb l).toList=l:=(ByteArray.toList_eq _).trans rfl
theorem Vl {l:Bs} {j:Nat}:(sb l)[j]?=l[j]?:=by
 by_cases h:j<l.length
 ·rw [yak h]
  exact getElem?_pos (sb l) j h
 ·rw [ybK (by omega)]
  exact getElem?_neg (sb l) j h
theorem less {a b:Bs}:Op.bytesLess a b=decide (a<b):=bytesLess_eq a b
theorem eF:Value.string ⟨#[]⟩=.string (sb []):=rfl
theorem uZ {l:Bs} {a b:Nat}:(sb l).extract a b=sb ((l.take b).drop a):=by
 apply ByteArray.ext
 show ((sb l).extract a b).data=_
 rw [ByteArray.data_extract]
 apply Array.ext'
 simp [sb,Array.toList_extract,List.extract,List.drop_take]
theorem acH {h:List Blk}:aJ [] h=True:=rfl
theorem xM {cx:Cx} {f:FuncId} {args:List V} {e:Env} {h:List Blk} {b:Nat} {K:V→St→Prop} {G:Type} (Q:G→Prop) (xs:List V) (x:G→V) (hC:cx.C f xs [] [] (IsQ Q x (fun _=>[])))
  (h1:aN h (fun _=>none) args∧wkL xs (aX h (fun _=>none) args)) (hx:∀ g,ren (fun j=>some (h.length+j)) (x g)=x g) (keep:aJ cx.fx h) (h3:∀ g,Q g→K (x g) ⟨e,h,b⟩):cB cx f args ⟨e,h,b⟩ K:=by
 refine lZ xs _ h1 hC ?_
 rintro r h' ⟨g,hg,rfl,rfl⟩
 simp only [yaS,yar]
 exact ⟨keep,by rw [hx];exact h3 g hg⟩
theorem fC {fx:List Nat} {f:(St→Prop)→St→Prop} {s:St} {G:Type} (pat:G→St) (I:G→Prop) (μ:G→Nat) (g:G) (h0:I g) (h1:leS fx s (pat g))
  (h:∀ g,I g→∀ N:St→Prop,(∀ s' g',I g'→μ g'<μ g→leS fx s' (pat g')→N s')→f N (pat g)):yV fx f s :=
 aZ pat I μ g h0 h1 fun g hg=>h g hg _ fun s' g' a b c=>⟨g',⟨a,b⟩,c⟩
def enS (s:Sp):List V:=[.i s.1,.i s.2]
def encI (x:Int):List V:=[.i x]
abbrev Ub (l:List Sp):V:=.ro 2 (l.map enS)
theorem Sv {s:Sp}:(enS s).length=2:=rfl
theorem Pp {s:Sp}:yah 2 (enS s)=enS s:=rfl
theorem adB {s:Sp}:(enS s)[0]?=some (.i s.1):=rfl
theorem adA {s:Sp}:(enS s)[1]?=some (.i s.2):=rfl
theorem acZ {s:Sp}:(enS s).all isC=true:=rfl
theorem acY {s:Sp}:(enS s).all isD=true:=rfl
theorem Pr {s:Sp}:yas 2 (enS s)=[]:=rfl
theorem Pq {s:Sp} {M:List Nat}:bK M (enS s)=enS s:=rfl
theorem Po {x:Int}:(encI x).length=1:=rfl
theorem xE {x:Int}:(encI x)[0]?=some (.i x):=rfl
theorem r8 {x:Int}:yas 1 (encI x)=[]:=rfl
def enL (a:List Sp):List V:=[Ub a]
theorem Sw {a:List Sp}:(enL a).length=1:=rfl
theorem adC {a:List Sp}:(enL a)[0]?=some (Ub a):=rfl
theorem Ps {a:List Sp}:yas 1 (enL a)=[]:=rfl
theorem acS {s t:Sp} {K:Bool→Prop}:(cI (q8 (V.agg (enS s))) fun xs=>cI (q8 (V.agg (enS t))) fun ys=>eG xs ys [(0,TypeDesc.int IntKind.i64),(1,TypeDesc.int IntKind.i64)] K)=K (s==t):=by
 have e:(s.1==t.1&&(s.2==t.2&&true))=(s==t):=by
  obtain ⟨a,b⟩:=s
  obtain ⟨c,d⟩:=t
  rw [yaW]
  simp
 apply propext
 rw [←e]
 constructor
 ·exact fun h=>h.2.2
 ·exact fun h=>⟨⟨rfl,rfl⟩,⟨rfl,rfl⟩,h⟩
theorem aaM:∀ n:Fin 32,n.val≠0→IntKind.u64.wrap (32-((32-n.val:Nat):Int))=(n.val:Int):=by decide
theorem Fw (x:W) (n:Nat) (h:1≤n∧n≤31):Ok 94 [w x,.i (-(n:Int))] (Is (w (rr x n))):=by
 have ra:=aaO ⟨n,by omega⟩ (by simp;omega)
 have rb:=aaN ⟨n,by omega⟩ (by simp;omega)
 have rc:=aaM ⟨n,by omega⟩ (by simp;omega)
 simp only at ra rb rc
 refine dX lw94 (by simp) ?_
 unfold c94
 have s1:∀ {K:V→Prop},b7 .shl .u32 (x.toNat:Int) ((32-n:Nat):Int) K=K (w (x <<< (32-n))):=Qa (by omega)
 have s2:∀ {K:V→Prop},b7 .shr .u32 (x.toNat:Int) (n:Int) K=K (w (x >>> n)):=Cc (by omega)
 simp -implicitDefEqProofs only [rX,↓rY,aA,↓reduceIte,Nat.reduceEqDiff,reduceCtorEq,a8,bF,wfV,cxN,aV,↓aiN,ra,rb,rc,↓s1,↓s2,↓Ur]
 unfold rr
 rw [BitVec.or_comm]
theorem Bi {a:Nat} (h:a≤31):IntKind.i64.wrap (-(a:Int))=-(a:Int):=by
 have:=(show ∀ n:Fin 32,IntKind.i64.wrap (-(n.val:Int))=-(n.val:Int) by decide) ⟨a,by omega⟩
 simpa using this
theorem aaY (x:W) (a b c:Nat) (ha:1≤a∧a≤31) (hb:1≤b∧b≤31) (hc:1≤c∧c≤31):Ok 89 [w x,.i a,.i b,.i c] (Is (w (rr x a ^^^ rr x b ^^^ rr x c))):=by
 refine dX lw89 (by simp) ?_
 unfold c89
 simp -implicitDefEqProofs only [rX,aA,↓reduceIte,Nat.reduceEqDiff,Nat.reduceAdd,reduceCtorEq,cxN,aV,Bi ha.2,Bi hb.2,Bi hc.2]
 refine bE (Fw x a ha) (by simp [aN,aY,aX,cG,wkL,wk,wkR]) rfl trivial ?_
 simp -implicitDefEqProofs only [rX,↓reduceIte,Nat.reduceEqDiff,reduceCtorEq,Bi hb.2,Bi hc.2]
 refine bE (Fw x b hb) (by simp [aN,aY,aX,cG,wkL,wk,wkR]) rfl trivial ?_
 simp -implicitDefEqProofs only [rX,↓reduceIte,Nat.reduceEqDiff,reduceCtorEq,Bi hb.2,Bi hc.2,↓oV]
 refine bE (Fw x c hc) (by simp [aN,aY,aX,cG,wkL,wk,wkR]) rfl trivial ?_
 simp -implicitDefEqProofs only [rX,↓reduceIte,Nat.reduceEqDiff,a8,bF,wfV,Bi hb.2,Bi hc.2,↓oV]
set_option maxRecDepth 20000
theorem uR (bs:List UInt8) {i:Nat} (hi:i≤64):(gB bs i).length=64:=by
 unfold gB
 rw [yag,fT,List.length_replicate]
 omega
theorem Vb (bs:List UInt8):gB bs 0=z64:=by unfold gB z64;rfl
theorem Qz (bs:List UInt8):gB bs 64=wds bs 64:=by simp [gB]
theorem Lz (bs:List UInt8) {i:Nat} (hi:i<64) (x:W) (hx:x=if i<16 then rA bs i else next (wds bs i)):(gB bs i).set i x=gB bs (i+1):=by
 unfold gB
 rw [yaB _ _ (by rw [fT];exact yad _),fT,ybi,show 64-i=(64-(i+1))+1 by omega,ybL,yai]
 subst hx
 simp [wds]
theorem o9 (bs:List UInt8) {i j:Nat} (hi:i≤64) (hj:j<i):wn (gB bs i) j=wn (wds bs i) j:=by
 unfold gB wn
 rw [yao,yao,yaI (by rw [fT];exact hj)]
def part (bs:List UInt8) (i:Nat):Nat→W
 | 0=>0
 | j+1=>part bs i j <<< 8 ||| B32 (bn bs (4*i+j))
theorem Vw (bs:List UInt8) (i:Nat):part bs i 4=rA bs i:=by
 unfold rA
 rw [←Qq]
 rfl
def lK (bs:List UInt8) (i j:Nat):List W:=(gB bs i).set i (part bs i j)
theorem Vc (bs:List UInt8) {i:Nat} (hi:i<64):lK bs i 0=gB bs i:=by
 unfold lK gB
 rw [yaB _ _ (by rw [fT];exact yad _),fT,ybi,show 64-i=(64-(i+1))+1 by omega,ybL,yai]
 rfl
theorem Mb (bs:List UInt8) {i j:Nat} (hi:i≤64):(lK bs i j).length=64:=by
 unfold lK
 rw [ybM,uR bs hi]
theorem Mc (bs:List UInt8) {i j:Nat} (hi:i<64):wn (lK bs i j) i=part bs i j:=by
 unfold lK wn
 rw [yao,List.getElem?_set_self (by rw [uR bs (by omega)];exact hi)]
 rfl
theorem Ma (bs:List UInt8) {i j:Nat} (x:W) (hx:x=part bs i (j+1)):(lK bs i j).set i x=lK bs i (j+1):=by
 unfold lK
 rw [List.set_set,hx]
abbrev byV (bs:List UInt8):V:=.bro 1 (bs.map by1)
set_option maxHeartbeats 1000000 in
theorem afY (bs:List UInt8) (hb:bs.length=64):Ok 88 [byV bs] (Is (.agg (ws (wds bs 64)))):=by
 refine dX lw88 (by simp) ?_
 unfold c88
 simp -implicitDefEqProofs only [rX,↓rY,aA,cells?,Nat.reduceAdd,aG,cxN,aV,w0]
 have lW:(wds bs 64).length=64:=fT bs 64
 refine fC (fun i:Nat=>(⟨[(11,.i i),(3,.ptr 1 0 0),(2,.ptr 0 0 0),(0,byV bs)],[.var (ws z64),.var (ws (gB bs i))],2⟩:St)) (fun i=>i≤64) (fun i=>64-i) 0 (yaz _) ?_ ?_
 ·rw [Vb]
  exact ⟨by simp -implicitDefEqProofs only [rX,↓reduceIte,Nat.reduceEqDiff,reduceCtorEq,leE];rfl,aF _,trivial,by simp -implicitDefEqProofs only [rX,aC,wfE,wfV],⟨gG,gG,trivial⟩⟩
 intro i hi N hN
 simp only [c88l0]
 simp -implicitDefEqProofs only [rX,↓rY,aA,cells?,splice,↓reduceIte,Nat.reduceEqDiff,Nat.reduceAdd,reduceCtorEq,bY,a8,bF,wfV,yav]
 cases h1:decide ((i:Int)<64) with
 | false =>
  have h1':=of_decide_eq_false h1
  have:i=64:=by omega
  subst this
  simp -implicitDefEqProofs only [rX,↓rY,Qz,As,Yc lW,lW,tT,Tw tT,Yb,gG]
 | true =>
  have h1':=of_decide_eq_true h1
  have hi64:i<64:=by omega
  have lT:(gB bs i).length=64:=uR bs hi
  have fin:∀ (x:W) (e:Env),x=(if i<16 then rA bs i else next (wds bs i))→get e 3=.ptr 1 0 0→get e 2=.ptr 0 0 0→get e 0=byV bs →
    N (⟨(11,.i ((i:Int)+1))::e,[.var (ws z64),.var (ws ((gB bs i).set i x))],2⟩:St):=by
   intro x e hx e3 e2 e0
   refine hN _ (i+1) (by omega) (by omega) ?_
   rw [Lz bs hi64 x hx]
   exact ⟨by simp -implicitDefEqProofs only [rX,↓reduceIte,Nat.reduceEqDiff,reduceCtorEq,leE,e3,e2,e0];simp,aF _,trivial,by simp -implicitDefEqProofs only [rX,aC,wfE,wfV],⟨gG,gG,trivial⟩⟩
  have sp:∀ x:W,yah i (ws (gB bs i))++[w x]++yas (i+1) (ws (gB bs i))=ws ((gB bs i).set i x):=fun x=>Lm (by omega)
  simp -implicitDefEqProofs only [↓rY]
  cases h2:decide ((i:Int)<16) with
  | true =>
   have h2':=of_decide_eq_true h2
   have h4:yah ((4*(i:Int)+4).toNat-(4*(i:Int)).toNat) (yas (4*(i:Int)).toNat (yac by1 bs))=((bs.drop (4*i)).take 4).map by1:=by
    rw [show (4*(i:Int)+4).toNat-(4*(i:Int)).toNat=4 by omega,show (4*(i:Int)).toNat=4*i by omega,yaL,ybe]
   have l4:((bs.drop (4*i)).take 4).length=4:=by simp;omega
   have a1:(lo IntKind.i64≤4*(i:Int)∧4*(i:Int)≤Fx.hi IntKind.i64):=by simp only [lo,Fx.hi];omega
   have a2:(lo IntKind.i64≤4*(i:Int)+4∧4*(i:Int)+4≤Fx.hi IntKind.i64):=by simp only [lo,Fx.hi];omega
   have a3:((0≤4*(i:Int)∧4*(i:Int)≤4*(i:Int)+4)∧4*(i:Int)+4≤(bs.length:Int)∧(bs.length:Int)≤(bs.length:Int)):=by omega
   simp -implicitDefEqProofs only [rX,↓rY,h4,l4,eq_true a1,eq_true a2,eq_true a3]
   intro _
   refine fC (fun j:Nat=>(⟨[(24,.i j),(23,.i 4),(22,.bro 1 (((bs.drop (4*i)).take 4).map by1)),(4,.i i),(11,.i i),(3,.ptr 1 0 0),(2,.ptr 0 0 0),(0,byV bs)],[.var (ws z64),.var (ws (lK bs i j))],2⟩:St)) (fun j=>j≤4) (fun j=>4-j) 0 (yaz _) ?_ ?_
   ·rw [Vc bs hi64]
    exact ⟨by simp -implicitDefEqProofs only [rX,↓reduceIte,Nat.reduceEqDiff,reduceCtorEq,leE];exact ⟨rfl,rfl⟩,aF _,trivial,by simp -implicitDefEqProofs only [rX,aC,wfE,wfV],⟨gG,gG,trivial⟩⟩
   intro j hj M hM
   have lP:(lK bs i j).length=64:=Mb bs hi
   simp only [c88l1]
   simp -implicitDefEqProofs only [rX,↓rY,aA,cells?,splice,↓reduceIte,Nat.reduceEqDiff,Nat.reduceAdd,yaC,yaj,Jl,yav]
   cases h3:decide ((j:Int)<4) with
   | false =>
    have h3':=of_decide_eq_false h3
    have:j=4:=by omega
    subst this
    have hq:lK bs i 4=(gB bs i).set i (rA bs i):=by unfold lK;rw [Vw]
    simp -implicitDefEqProofs only [↓rY,hq]
    exact ⟨by simp only [lo,Fx.hi];omega,fin _ _ (by rw [if_pos (by omega)]) rfl rfl rfl⟩
   | true =>
    have h3':=of_decide_eq_true h3
    have hj4:j<4:=by omega
    have hg:((bs.drop (4*i)).take 4)[j]'(by omega)=bn bs (4*i+j):=by
     unfold bn
     rw [List.getElem_take,List.getElem_drop,yao,yak (by omega)]
     rfl
    have s8:∀ {x:W} {K:V→Prop},b7 .shl .u32 (x.toNat:Int) 8 K=K (w (x <<< 8)):=fun {x K}=>Qa (n:=8) (by omega)
    have gi:(ws (lK bs i j))[i]?=some (w (part bs i j)):=by rw [y8 (by omega),Mc bs hi64]
    have spP:∀ x:W,yah i (ws (lK bs i j))++[w x]++yas (i+1) (ws (lK bs i j))=ws ((lK bs i j).set i x):=fun x=>Lm (by omega)
    simp -implicitDefEqProofs only [rX,↓rY,isC,Nat.reduceLeDiff,gi,↓s8,l4,hg,↓Xq,spP,As,lP]
    refine ⟨by omega,⟨by omega,by omega,?_,by omega,by omega,by simp only [lo,Fx.hi];omega,?_⟩⟩
    ·have:=(bn bs (4*i+j)).toNat_lt
     simp only [lo,Fx.hi];omega
    refine hM _ (j+1) (by omega) (by omega) ?_
    rw [show (lK bs i j).set i (part bs i j <<< 8 ||| B32 (bn bs (4*i+j)))=lK bs i (j+1) from Ma bs _ rfl]
    exact ⟨by simp -implicitDefEqProofs only [rX,↓reduceIte,Nat.reduceEqDiff,reduceCtorEq,leE];simp,aF _,trivial,by simp -implicitDefEqProofs only [rX,aC,wfE,wfV],⟨gG,gG,trivial⟩⟩
  | false =>
   have h2':=of_decide_eq_false h2
   have g15:(ws (gB bs i))[((i:Int)-15).toNat]?=some (w (wn (wds bs i) (i-15))):=by
    rw [show ((i:Int)-15).toNat=i-15 by omega,y8 (by omega),o9 bs hi (by omega)]
   have g2:(ws (gB bs i))[((i:Int)-2).toNat]?=some (w (wn (wds bs i) (i-2))):=by
    rw [show ((i:Int)-2).toNat=i-2 by omega,y8 (by omega),o9 bs hi (by omega)]
   have g16:(ws (gB bs i))[((i:Int)-16).toNat]?=some (w (wn (wds bs i) (i-16))):=by
    rw [show ((i:Int)-16).toNat=i-16 by omega,y8 (by omega),o9 bs hi (by omega)]
   have g7:(ws (gB bs i))[((i:Int)-7).toNat]?=some (w (wn (wds bs i) (i-7))):=by
    rw [show ((i:Int)-7).toNat=i-7 by omega,y8 (by omega),o9 bs hi (by omega)]
   have s3:∀ {x:W} {K:V→Prop},b7 .shr .u32 (x.toNat:Int) 3 K=K (w (x >>> 3)):=fun {x K}=>Cc (n:=3) (by omega)
   have s10:∀ {x:W} {K:V→Prop},b7 .shr .u32 (x.toNat:Int) 10 K=K (w (x >>> 10)):=fun {x K}=>Cc (n:=10) (by omega)
   simp -implicitDefEqProofs only [↓rY,g15,g2]
   refine ⟨by simp only [lo,Fx.hi];omega,by omega,by simp only [lo,Fx.hi];omega,by omega,?_⟩
   refine bE (Fw (wn (wds bs i) (i-15)) 7 (by omega)) (by simp [aN,aY,aX,cG,wkL,wk,wkR]) rfl trivial ?_
   simp -implicitDefEqProofs only [rX,aA,↓reduceIte,Nat.reduceEqDiff]
   refine bE (Fw (wn (wds bs i) (i-15)) 18 (by omega)) (by simp [aN,aY,aX,cG,wkL,wk,wkR]) rfl trivial ?_
   simp -implicitDefEqProofs only [qY,zb,zh,zi,zk,zu,zK,kN,kR,kT,kU,kY,aA,yaJ,yaw,↓reduceIte,Nat.reduceEqDiff,wa,yar,yaK,Nat.reduceAdd,yal,yaS,true_and,qaq,↓oV,↓s3]
   refine bE (Fw (wn (wds bs i) (i-2)) 17 (by omega)) (by simp [aN,aY,aX,cG,wkL,wk,wkR]) rfl trivial ?_
   simp -implicitDefEqProofs only [rX,aA,↓reduceIte,Nat.reduceEqDiff]
   refine bE (Fw (wn (wds bs i) (i-2)) 19 (by omega)) (by simp [aN,aY,aX,cG,wkL,wk,wkR]) rfl trivial ?_
   simp -implicitDefEqProofs only [qY,qZ,zh,zi,zk,zp,zq,zu,zK,ka,kR,kS,kT,kU,kY,aA,cells?,yaJ,yaw,yai,splice,kZ,yao,ybj,↓reduceIte,Nat.reduceEqDiff,yaX,wa,yar,yaK,Nat.reduceAdd,ybg,ybN,isC,ybv,ybk,true_and,and_true,and_self,yaR,not_false_eq_true,Nat.reduceLeDiff,lg0,wl,qaq,↓qar,↓qat,↓qav,↓qaz,↓qaB,↓qaC,↓qaG,↓qcm,↓qco,yaj,yav,↓Cd,↓oV,↓s10,g16,g7,yav,sp,As,lT]
   refine ⟨by simp only [lo,Fx.hi];omega,by omega,by simp only [lo,Fx.hi];omega,by omega,by omega,by omega,by simp only [lo,Fx.hi];omega,?_⟩
   exact fin _ _ (by rw [if_neg (by omega)];unfold next;rw [fT]) rfl rfl rfl
set_option maxRecDepth 20000
theorem b8 {b:UInt8}:lo .u32≤(b.toNat:Int)∧(b.toNat:Int)≤Fx.hi .u32:=by
 have:=b.toNat_lt
 simp only [lo,Fx.hi];omega
set_option maxRecDepth 20000
def kA:List V:=tM.map V.v
theorem Wq:yac V.v tM=kA:=rfl
theorem Ws {i:Nat} (h:i<64):kA[i]?=some (w (kW i)):=by
 have:∀ i:Fin 64,Gj.getD i.val 0<4294967296∧i.val<Gj.length:=by decide +kernel
 obtain ⟨h1,h2⟩:=this ⟨i,h⟩
 simp only at h1 h2
 unfold kA tM kW
 rw [yaO,yaM,yak h2]
 rw [yao,yak h2] at h1 ⊢
 simp only [yaX] at h1
 have h3:(yaF 32 Gj[i]).toNat=Gj[i]:=by rw [ybc];omega
 simp only [ybO,Function.comp,yaX,w]
 rw [h3]
theorem Tz {q:List Blk}:∀ l:List Value,wfL q (l.map V.v)
 | []=>trivial
 | _::r=>⟨trivial,Tz r⟩
theorem Ul {q:List Blk}:wfL q kA:=Tz tM
attribute [irreducible] kA
def stp (s r:S8) (i:Nat):S8:=⟨if 0<i then s.a+r.a else s.a,if 1<i then s.b+r.b else s.b,if 2<i then s.c+r.c else s.c,if 3<i then s.d+r.d else s.d,if 0<i then s.e+r.e else s.e,if 1<i then s.f+r.f else s.f,if 2<i then s.g+r.g else s.g,if 3<i then s.h+r.h else s.h⟩
theorem Yg (s r:S8):stp s r 4=s.add r:=rfl
theorem n0:((0:Nat):Int)=0:=rfl
theorem n1:((1:Nat):Int)=1:=rfl
theorem n2:((2:Nat):Int)=2:=rfl
theorem n3:((3:Nat):Int)=3:=rfl
theorem n8:((8:Nat):Int)=8:=rfl
theorem m64:((64:Nat):Int)=64:=rfl
theorem n4:((4:Nat):Int)=4:=rfl
abbrev z8:List V:=[.v (.int .u32 0),.v (.int .u32 0),.v (.int .u32 0),.v (.int .u32 0),.v (.int .u32 0),.v (.int .u32 0),.v (.int .u32 0),.v (.int .u32 0)]
theorem S8.enc_C (s:S8):s.enc.all isC=true:=rfl
set_option maxHeartbeats 2000000 in
theorem agA (s:S8) (bs:List UInt8) (hb:bs.length=64):Ok 72 [.agg s.enc,byV bs] (Is (.agg (comp s bs).enc)):=by
 refine dX lw72 (by simp) ?_
 unfold c72
 simp -implicitDefEqProofs only [rX,↓rY,aA,cells?,↓reduceIte,Nat.reduceEqDiff,Nat.reduceAdd,reduceCtorEq,aG,cxN,aV,S8.enc]
 have lW:(wds bs 64).length=64:=fT bs 64
 refine bE (afY bs hb) (by simp [aN,aY,aX,cG,wkL,wk,wkR,wkB]) (by simp [ren,Ux]) trivial ?_
 simp -implicitDefEqProofs only [rX,↓rY,rdK,aA,cells?,splice,↓reduceIte,Nat.reduceEqDiff,Nat.reduceAdd,reduceCtorEq,aG,bY,isC,Nat.reduceLT,Nat.reduceLeDiff,w0,afA,Wq,As,tT,lW,Yc lW,Tw tT,Yb,yaY,n8,ybl,Nat.reduceSub]
 refine ⟨?_,?_⟩
 all_goals
  refine fC (fun i:Nat=>(⟨[(22,.i i),(21,.agg kA),(7,.ptr 4 0 0),(6,.ptr 3 0 0),(5,.ptr 2 0 0),(4,.ptr 1 0 0),(2,.ptr 0 0 0)],[.var [w s.a,w s.b,w s.c,w s.d,w s.e,w s.f,w s.g,w s.h],.var z8,.var (ws (wds bs 64)),.var [w (tJ (wn (wds bs 64)) s i).a,w (tJ (wn (wds bs 64)) s i).b,w (tJ (wn (wds bs 64)) s i).c,w (tJ (wn (wds bs 64)) s i).d],.var [w (tJ (wn (wds bs 64)) s i).e,w (tJ (wn (wds bs 64)) s i).f,w (tJ (wn (wds bs 64)) s i).g,w (tJ (wn (wds bs 64)) s i).h]],5⟩:St)) (fun i=>i≤64) (fun i=>64-i) 0 (yaz _) ?_ ?_
  ·refine ⟨by simp -implicitDefEqProofs only [rX,↓reduceIte,Nat.reduceEqDiff,leE];rfl,aF _,trivial,?_,?_⟩
   ·simp -implicitDefEqProofs only [rX,aC,wfE,wfV,Ul]
   ·simp -implicitDefEqProofs only [rX,wfB,wfV,wfL,gG]
  intro i hi N hN
  obtain ⟨r,hr⟩:∃ r,r=tJ (wn (wds bs 64)) s i:=⟨_,rfl⟩
  rw [←hr]
  simp only [c72l0]
  simp -implicitDefEqProofs only [rX,↓rY,rdK,aA,↓reduceIte,Nat.reduceEqDiff,Nat.reduceAdd,yaj,yav]
  cases h1:decide ((i:Int)<64) with
  | false =>
   have h1':=of_decide_eq_false h1
   have:i=64:=by omega
   subst this
   simp -implicitDefEqProofs only [↓rY]
   refine fC (fun i:Nat=>(⟨[(94,.i i),(7,.ptr 4 0 0),(6,.ptr 3 0 0),(4,.ptr 1 0 0),(2,.ptr 0 0 0)],[.var [w (stp s r i).a,w (stp s r i).b,w (stp s r i).c,w (stp s r i).d,w (stp s r i).e,w (stp s r i).f,w (stp s r i).g,w (stp s r i).h],.var z8,.var (ws (wds bs 64)),.var [w r.a,w r.b,w r.c,w r.d],.var [w r.e,w r.f,w r.g,w r.h]],5⟩:St)) (fun i=>i≤4) (fun i=>4-i) 0 (yaz _) ?_ ?_
   ·exact ⟨by simp -implicitDefEqProofs only [rX,↓reduceIte,Nat.reduceEqDiff,leE];rfl,aF _,trivial,by simp -implicitDefEqProofs only [rX,aC,wfE,wfV],by simp -implicitDefEqProofs only [rX,wfB,wfV,wfL,gG]⟩
   intro i hi N hN
   have hc:comp s bs=s.add r:=by unfold comp;rw [hr]
   have hcase:i=0∨i=1∨i=2∨i=3∨i=4:=by omega
   rcases hcase with rfl|rfl|rfl|rfl|rfl
   all_goals
    simp only [c72l1]
    simp -implicitDefEqProofs only [qX,qY,qZ,zb,zc,zd,zf,zg,zh,zi,zk,zp,zq,zu,ka,kR,kS,kT,kU,kY,aA,cells?,yaJ,yaw,yai,splice,kZ,yao,ybj,↓reduceIte,Nat.reduceEqDiff,yaX,wa,wc,↓wd,↓we,yaZ,ybw,yar,yaK,Nat.reduceAdd,Nat.add_zero,wi,a8,bF,ybm,ybn,wfV,wfL,ybo,ybI,List.take_nil,List.drop_nil,ybg,ybN,isC,ybv,ybk,true_and,and_true,and_self,yaR,yag,not_false_eq_true,Nat.reduceLT,Nat.reduceLeDiff,yad,lg0,wl,wm,wq,lg1,wu,wv,lg2,wy,wz,lg3,wD,wE,lg4,wH,wI,lg5,wL,wM,lg6,wP,wQ,lg7,wT,wU,qaq,↓qar,↓qat,↓qav,↓qaw,↓qaz,↓qaA,↓qaB,↓qaC,↓qaD,↓qaG,↓qcm,↓qcu,yav,yaY,Int.reduceAdd,n0,n1,n2,n3,n4,n8,decide_true,decide_false,ybx,ybl,↓Cd]
   ·exact ⟨by decide,by decide,hN _ 1 (by omega) (by omega) ⟨by simp -implicitDefEqProofs only [rX,↓reduceIte,Nat.reduceEqDiff,leE];rfl,aF _,trivial,by simp -implicitDefEqProofs only [rX,aC,wfE,wfV],by simp -implicitDefEqProofs only [rX,wfB,wfV,wfL,gG]⟩⟩
   ·exact ⟨by decide,by decide,hN _ 2 (by omega) (by omega) ⟨by simp -implicitDefEqProofs only [rX,↓reduceIte,Nat.reduceEqDiff,leE];rfl,aF _,trivial,by simp -implicitDefEqProofs only [rX,aC,wfE,wfV],by simp -implicitDefEqProofs only [rX,wfB,wfV,wfL,gG]⟩⟩
   ·exact ⟨by decide,by decide,hN _ 3 (by omega) (by omega) ⟨by simp -implicitDefEqProofs only [rX,↓reduceIte,Nat.reduceEqDiff,leE];rfl,aF _,trivial,by simp -implicitDefEqProofs only [rX,aC,wfE,wfV],by simp -implicitDefEqProofs only [rX,wfB,wfV,wfL,gG]⟩⟩
   ·exact ⟨by decide,by decide,hN _ 4 (by omega) (by omega) ⟨by simp -implicitDefEqProofs only [rX,↓reduceIte,Nat.reduceEqDiff,leE];rfl,aF _,trivial,by simp -implicitDefEqProofs only [rX,aC,wfE,wfV],by simp -implicitDefEqProofs only [rX,wfB,wfV,wfL,gG]⟩⟩
   ·rw [hc,Yg]
  | true =>
   have h1':=of_decide_eq_true h1
   have gw:(ws (wds bs 64))[i]?=some (w (wn (wds bs 64) i)):=y8 (by omega)
   have ck:(0≤(i:Int)∧(i:Int)<((64:Nat):Int)):=by omega
   simp -implicitDefEqProofs only [ybj,wa,↓wd,ybk,true_and,and_self,Nat.reduceLT,lg0,lg1,lg2,↓qar,eq_true ck,Ws (show i<64 by omega),yaY,n4,ybx,ybl,↓oV,↓Qb,↓Xr,gw]
   refine bE (aaY r.e 6 11 25 (by omega) (by omega) (by omega)) (by simp [aN,aY,aX,cG,wkL,wk,wkR]) rfl trivial ?_
   simp -implicitDefEqProofs only [qa,qe,qs,qP,rdK,qQ,qR,qS,qT,qV,zb,zk,zp,zu,ka,kN,kR,kT,kU,kY,aA,yaJ,yaw,kZ,yao,ybj,↓reduceIte,Nat.reduceEqDiff,yaX,wa,yar,yaK,Nat.reduceAdd,yal,yaS,ybv,ybk,true_and,and_true,and_self,Nat.reduceLT,lg0,lg1,lg2,qaq,↓qar,↓qat,↓qav,↓qaz,↓qaG,yav,eq_true ck,yaY,n4,ybx,ybl,↓Cd,↓oV,↓Qb]
   refine bE (aaY r.a 2 13 22 (by omega) (by omega) (by omega)) (by simp [aN,aY,aX,cG,wkL,wk,wkR]) rfl trivial ?_
   simp -implicitDefEqProofs only [qa,qe,qR,qT,qY,zb,zh,zi,zk,zp,zq,zu,zH,ka,kR,kS,kT,kU,kY,aA,cells?,yaJ,yaw,yai,splice,kZ,yao,ybj,↓reduceIte,Nat.reduceEqDiff,yaX,wa,yaZ,ybw,yar,yaK,Nat.reduceAdd,Nat.add_zero,cP,yal,yaS,ybo,ybI,List.drop_nil,ybg,ybN,isC,ybv,ybk,true_and,and_true,and_self,yaR,yag,not_false_eq_true,Nat.reduceLT,Nat.reduceLeDiff,yad,lg0,wl,wm,wq,lg1,wt,wu,wv,lg2,wx,wy,wz,lg3,wC,wD,qaq,↓qar,↓qat,↓qav,↓qaz,↓qaB,↓qaD,↓qaG,↓qcm,yav,yaY,n4,ybx,ybl,↓Cd,splice]
   refine ⟨by simp only [lo,Fx.hi];omega,hN _ (i+1) (by omega) (by omega) ?_⟩
   have e:tJ (wn (wds bs 64)) s (i+1)=r.rnd (kW i) (wn (wds bs 64) i):=by rw [hr];rfl
   simp only [e]
   exact ⟨by simp -implicitDefEqProofs only [rX,↓reduceIte,Nat.reduceEqDiff,leE];simp,aF _,trivial,by simp -implicitDefEqProofs only [rX,aC,wfE,wfV,Ul],by simp -implicitDefEqProofs only [rX,wfB,wfV,wfL,gG]⟩
set_option maxRecDepth 20000
def Stm.enc (S:Stm):List V:=sC S.st S.blk S.n
theorem Pn {s:S8} {f:Nat→Option Nat}:dN f s.enc=s.enc:=rfl
theorem Gn {s:S8} {h:List Blk} {g:Nat→Option Nat}:aN h g s.enc:=⟨trivial,trivial,trivial,trivial,trivial,trivial,trivial,trivial,trivial⟩
theorem Ss {s:S8} {h:List Blk} {g:Nat→Option Nat}:wkL s.enc (aX h g s.enc):=⟨rfl,rfl,rfl,rfl,rfl,rfl,rfl,rfl,trivial⟩
theorem Su {s:S8}:s.enc.length=8:=rfl
theorem Me {t:Bs}:dO (sb t)=t.map by1:=rfl
set_option maxHeartbeats 2000000 in
theorem Wb (S:Stm) (m t:Bs) (h:Rp S m) (hm:m.length+t.length≤1152921504606846976):Ok 56 [.agg S.enc,sv t] (IsQ (fun S'=>Rp S' (m++t)) (fun S'=>.agg S'.enc) (fun _=>[])):=by
 refine dX lw56 (by simp) ?_
 unfold c56
 simp -implicitDefEqProofs only [rX,↓rY,aA,cells?,↓reduceIte,aG,cxN,aV,Stm.enc]
 refine fC (fun g:Stm × Bs × Bs=>(⟨[(1,sv g.2.2),(4,.ptr 1 0 0),(2,.ptr 0 0 0)],[.var (sC g.1.st g.1.blk g.1.n),.var (sC ⟨0,0,0,0,0,0,0,0⟩ (yaa 64 0) 0)],2⟩:St)) (fun g=>Rp g.1 (m++g.2.1)∧g.2.1++g.2.2=t) (fun g=>g.2.2.length) (S,[],t) ⟨by simpa using h,rfl⟩ ?_ ?_
 ·refine ⟨by simp -implicitDefEqProofs only [rX,↓reduceIte,Nat.reduceEqDiff,reduceCtorEq,leE],⟨aO _,?_,trivial⟩,trivial,by simp -implicitDefEqProofs only [rX,aC,wfE,wfV],⟨iF,iF,trivial⟩⟩
  show eP _ _
  rw [show sC ⟨0,0,0,0,0,0,0,0⟩ (yaa 64 0) 0=yaa 8 (w 0)++(yaa 64 (u8 0)++[n64 0]) by unfold sC;rfl]
  exact gW _
 rintro ⟨S,c,r⟩ ⟨hR,hcr⟩ N hN
 simp only at hR hcr
 have hl:=hR.len
 have hn:=hR.n
 have hsum:c.length+r.length=t.length:=by rw [←hcr,yag]
 rw [yag] at hn
 obtain ⟨j,hj⟩:∃ j,j=S.n%64:=⟨_,rfl⟩
 have hj64:j<64:=by omega
 obtain ⟨cc,hcc⟩:∃ cc,cc=r.take (64-j):=⟨_,rfl⟩
 have hcl:cc.length=min r.length (64-j):=by rw [hcc,yau];omega
 have e1:IntKind.i64.wrap (Int.tmod (S.n:Int) 64)=(j:Int):=by
  rw [show Int.tmod (S.n:Int) 64=(j:Int) by rw [hj];simp [Int.tmod_eq_emod]]
  exact lH _ _ ⟨by simp only [lo];omega,by simp only [Fx.hi];omega⟩
 have f1:(yah (64-j) (dO (sb r))).flatten=cc.map u8:=by
  rw [hcc,Me,←yaL]
  induction r.take (64-j) with
  | nil=>rfl
  | cons x q ih=>rw [yal,ybP,ih];rfl
 have f2:min (dO (sb r)).length (64-j)=cc.length:=by rw [Me,yat,hcl]
 have e2:IntKind.u64.wrap (cc.length:Int)=(cc.length:Int):=lH _ _ ⟨by simp only [lo];omega,by simp only [Fx.hi];omega⟩
 have e3:IntKind.u64.wrap ((S.n:Int)+(cc.length:Int))=((S.n+cc.length:Nat):Int):=by
  rw [←ybF]
  exact lH _ _ ⟨by simp only [lo];omega,by simp only [Fx.hi];omega⟩
 have f3:(sC S.st S.blk S.n).take (8+j)++cc.map u8++(sC S.st S.blk S.n).drop (8+j+cc.length)=sC S.st (i9 S.blk cc j) S.n:=Rf hl (by omega)
 have pl:(i9 S.blk cc j).length=64:=by rw [Do (by omega),hl]
 have sx:(sb r).extract cc.length r.length=sb (r.drop cc.length):=by rw [uZ,yby]
 have hst:=hR.step (c:=cc) (by omega)
 simp only [c56l0]
 simp -implicitDefEqProofs only [rX,↓rY,aA,cells?,splice,↓reduceIte,Nat.reduceEqDiff,Nat.reduceAdd,bY,isC,Nat.reduceLeDiff,yaj,e7,pA,eF,eF,pA,Re hl,dU hl,e1,f1,f2,f3,e2,Re pl,dU pl,e3,Vp pl,sx,yau,yaA,yaY,m64]
 cases hr:(!r==([]:Bs)) with
 | false =>
  have hr':r=[]:=by simpa using hr
  subst hr'
  rw [yar] at hcr
  subst hcr
  have zl:(yaa 64 (0:UInt8)).length=64:=rfl
  simp -implicitDefEqProofs only [rX,↓rY,iN hl,Rg,dU zl,u0 zl,dU hl,Nat.min_self]
  refine Mt S hR ?_
  simp -implicitDefEqProofs only [rX,↓rY,↓reduceIte,Nat.reduceEqDiff,a8,bF,leH,aJ,wfB,wfV,iN hl,dU hl,iF]
 | true =>
  have hr':r≠[]:=by simpa using hr
  have hrl:0<r.length:=ycc.2 hr'
  simp -implicitDefEqProofs only [↓rY]
  refine ⟨by omega,by omega,by omega,by omega,by omega,⟨by simp only [lo];omega,by simp only [Fx.hi];omega⟩,?_⟩
  have hrd:cc++r.drop cc.length=r:=by
   by_cases h:64-j≤r.length
   ·rw [show cc.length=64-j by omega,hcc,List.take_append_drop]
   ·rw [hcc,yaf (by omega),yax (by omega),yar]
  rw [←hj] at hst
  have hI:c++cc++r.drop cc.length=t:=by rw [yaq,hrd,hcr]
  rw [yaq] at hst
  cases h6:((j:Int)+(cc.length:Int)==64) with
  | true =>
   have h6':j+cc.length=64:=by have:=eq_of_beq h6;omega
   rw [if_pos h6'] at hst
   simp -implicitDefEqProofs only [↓rY,Yk]
   refine ⟨by omega,⟨by omega,by omega,by omega⟩,?_⟩
   refine bE (agA S.st (i9 S.blk cc j) pl) ⟨⟨Gn,trivial,trivial⟩,Ss,?_,trivial⟩ (by simp only [ren,Pn]) trivial ?_
   ·show wkB (if (decide (8+64≤(sC S.st (i9 S.blk cc j) (S.n+cc.length)).length)&&(((sC S.st (i9 S.blk cc j) (S.n+cc.length)).drop 8).take 64).all isD)=true then V.bro 1 ((((sC S.st (i9 S.blk cc j) (S.n+cc.length)).drop 8).take 64).map fun c=>[c]) else V.any) 1 ((i9 S.blk cc j).map by1)
    rw [if_pos (by rw [dU pl,Mo pl];rfl),Rd pl]
    exact ⟨rfl,rfl⟩
   simp -implicitDefEqProofs only [rX,↓rY,cells?,splice,↓reduceIte,Nat.reduceEqDiff,Nat.reduceLeDiff,Vo,dU pl,Su,S8.enc_C]
   refine hN _ (⟨comp S.st (i9 S.blk cc j),i9 S.blk cc j,S.n+cc.length⟩,c++cc,r.drop cc.length) ⟨hst,hI⟩ (by simp only [yaA];omega) ?_
   exact ⟨by simp -implicitDefEqProofs only [rX,↓reduceIte,Nat.reduceEqDiff,leE],aF _,trivial,by simp -implicitDefEqProofs only [rX,aC,wfE,wfV],⟨iF,iF,trivial⟩⟩
  | false =>
   have h6':j+cc.length≠64:=by
    intro h
    have:((j:Int)+(cc.length:Int)==64)=true:=by rw [beq_iff_eq];omega
    rw [this] at h6;cases h6
   rw [if_neg h6'] at hst
   simp -implicitDefEqProofs only [↓rY]
   refine hN _ (⟨S.st,i9 S.blk cc j,S.n+cc.length⟩,c++cc,r.drop cc.length) ⟨hst,hI⟩ (by simp only [yaA];omega) ?_
   exact ⟨by simp -implicitDefEqProofs only [rX,↓reduceIte,Nat.reduceEqDiff,leE],aF _,trivial,by simp -implicitDefEqProofs only [rX,aC,wfE,wfV],⟨iF,iF,trivial⟩⟩
set_option maxRecDepth 20000
def us (l:Bs):List V:=l.map u8
theorem fH {l:Bs}:(us l).length=l.length:=by simp [us]
theorem o6 {l:Bs}:(us l).all isC=true:=by simp [us,isC,isD]
theorem Qv {l:Bs}:(us l).all isD=true:=by simp [us,isD]
theorem eD {l:Bs} {q:List Blk}:wfL q (us l):=by
 unfold us
 induction l with
 | nil=>trivial
 | cons x r ih=>exact ⟨trivial,ih⟩
theorem cM {l:Bs} {f:Nat→Option Nat}:dN f (us l)=us l:=by
 unfold us
 induction l with
 | nil=>rfl
 | cons x r ih=>exact congrArg (u8 x::·) ih
theorem tX {l:Bs} {n:Nat}:(us l).take n=us (l.take n):=by simp [us,yaL]
theorem Av {l:Bs} {n:Nat}:(us l).drop n=us (l.drop n):=by simp [us,ybe]
theorem Lw {l:Bs} {i:Nat} {x:UInt8} (hi:i<l.length):(us l).take i++[u8 x]++(us l).drop (i+1)=us (l.set i x):=by
 unfold us
 rw [ybt,yca,if_pos (by simpa using hi)]
 simp
theorem Uz {l:Bs} {i:Nat} (hi:i<l.length):(us l)[i]?=some (u8 (bn l i)):=by
 unfold us bn
 rw [yaM,yak hi,yao,yak hi]
 rfl
attribute [irreducible] us
def z32:Bs:=yaa 32 0
theorem tU:z32.length=32:=rfl
theorem w32:yac V.v (yaU 32 (Value.int IntKind.u8 0)).toList=us z32:=by unfold us;rfl
attribute [irreducible] z32
def pz (k:Nat):Bs:=128::yaa k 0
theorem rM {k:Nat}:(pz k).length=k+1:=by simp [pz]
theorem Vv {k:Nat}:pz k++[0]=pz (k+1):=by
 unfold pz
 rw [ybw,←ycd]
theorem afX:pz 0=[128]:=rfl
attribute [irreducible] pz
theorem oE {M:List Nat}:∀ l:List V,(∀ x∈l,∃ u,x=.v u)→bK M l=l
 | [],_=>rfl
 | x::r,h=>by
  obtain ⟨u,rfl⟩:=h x yaP
  show V.v u::bK M r=_
  rw [oE r fun y hy=>h y (yaQ _ hy)]
theorem iB {M:List Nat} {l:Bs}:bK M (us l)=us l:=oE _ (by
 unfold us
 intro x hx
 obtain ⟨b,_,rfl⟩:=yaV.1 hx
 exact ⟨_,rfl⟩)
theorem gM {s:S8} {b:Bs} {n:Nat}:∀ x∈sC s b n,∃ u,x=V.v u:=by
 unfold sC
 intro x hx
 simp only [S8.enc,ybu,yaV,ybh,yaR,or_false] at hx
 rcases hx with (rfl|rfl|rfl|rfl|rfl|rfl|rfl|rfl)|⟨u,_,rfl⟩|rfl<;>exact ⟨_,rfl⟩
theorem Dc {M:List Nat} {s:S8} {b:Bs} {n:Nat}:bK M (sC s b n)=sC s b n:=oE _ gM
theorem d8 {h:List Blk} {g:Nat→Option Nat}:∀ l:List V,(∀ x∈l,∃ u,x=.v u)→aN h g l∧wkL l (aX h g l)
 | [],_=>⟨trivial,trivial⟩
 | x::r,q=>by
  obtain ⟨u,rfl⟩:=q x yaP
  have:=d8 (h:=h) (g:=g) r fun y hy=>q y (yaQ _ hy)
  exact ⟨⟨trivial,this.1⟩,rfl,this.2⟩
def l8 (n i:Nat):Bs:=(yaH i).map fun i=>UInt8.ofNat (8*n/2 ^ (56-8*i))
theorem agY {n i:Nat}:l8 n (i+1)=l8 n i++[UInt8.ofNat (8*n/2 ^ (56-8*i))]:=by simp [l8,List.range_succ]
theorem Bn {n i:Nat}:(l8 n i).length=i:=by simp [l8]
theorem eV:∀ l:Bs,bytesOf (l.map by1)=some l
 | []=>rfl
 | b::r=>by
  show (bytesOf (r.map by1)).map (UInt8.ofNat ((b.toNat:Int)).toNat::·)=_
  rw [eV r]
  simp
theorem Db {l:Bs}:({ data:=l.toArray }:ByteArray)=sb l:=rfl
theorem Vx {n:Nat}:pz (zeros n)++l8 n 8=pad n:=by unfold pz;rfl
def oB (s:S8) (i:Nat):Bs:=(yaH i).map (Bd s)++yaa (32-i) 0
theorem Wj {s:S8} {i:Nat} (h:i≤32):(oB s i).length=32:=by simp [oB];omega
theorem agU {s:S8}:oB s 0=z32:=by unfold z32;rfl
theorem abY {s:S8}:oB s 32=(yaH 32).map (Bd s):=by simp [oB]
theorem Wi {s:S8} {i:Nat} (h:i<32):(oB s i).set i (Bd s i)=oB s (i+1):=by
 unfold oB
 rw [yaB _ _ (by simp),yat,List.length_range,ybi,show 32-i=(32-(i+1))+1 by omega,ybL,yai,List.range_succ,yap]
 simp
theorem Rc {s:S8} {b:Bs} {n j:Nat} (h:j<8):(sC s b n)[j]?=some (w (wn s.l j)):=by
 unfold sC
 rw [yaI (by simp [S8.enc];omega)]
 have:j=0∨j=1∨j=2∨j=3∨j=4∨j=5∨j=6∨j=7:=by omega
 rcases this with rfl|rfl|rfl|rfl|rfl|rfl|rfl|rfl<;>rfl
set_option maxHeartbeats 2000000 in
theorem agE (S:Stm) (m:Bs) (h:Rp S m) (hm:m.length≤576460752303423488):Ok 57 [.agg S.enc] (Is (.agg (us (sha m)))):=by
 refine dX lw57 (by simp) ?_
 unfold c57
 have hn:=h.n
 have hl:=h.len
 have e8:IntKind.u64.wrap (8*(S.n:Int))=((8*S.n:Nat):Int):=by
  rw [show (8*(S.n:Int))=((8*S.n:Nat):Int) by omega]
  exact lH _ _ ⟨by simp only [lo];omega,by simp only [Fx.hi];omega⟩
 simp -implicitDefEqProofs only [rX,↓rY,aA,cells?,↓reduceIte,Nat.reduceEqDiff,Nat.reduceAdd,aG,dI,isD,Nat.reduceLT,cxN,aV,Stm.enc,w32,Re hl,e8]
 refine fC (fun k:Nat=>(⟨[(4,.sl 2 0 (k+1)),(3,n64 (8*S.n)),(2,.ptr 1 0 0),(1,.ptr 0 0 0)],[.var (sC S.st S.blk S.n),.var (us z32),.arr 1 ((pz k).map by1)],3⟩:St)) (fun k=>k≤zeros m.length) (fun k=>zeros m.length-k) 0 (yaz _) ?_ ?_
 ·exact ⟨by simp -implicitDefEqProofs only [rX,↓reduceIte,Nat.reduceEqDiff,leE],⟨aO _,aO _,by rw [afX];exact aO _,trivial⟩,trivial,by simp -implicitDefEqProofs only [rX,aC,wfE,wfV],by simp -implicitDefEqProofs only [rX,wfB,iF,eD]⟩
 intro k hk N hN
 have ei:IntKind.i64.wrap (S.n:Int)=(S.n:Int):=lH _ _ ⟨by simp only [lo];omega,by simp only [Fx.hi];omega⟩
 have hz:=Lh m.length
 have hz2:zeros m.length<64:=by unfold zeros;omega
 have tk:yah (k+1) (yac by1 (pz k))=yac by1 (pz k):=yaf (by rw [yat,rM];exact yad _)
 have b0:(yac by1 (pz k))++[[V.v (Value.int IntKind.u8 0)]]=(pz (k+1)).map by1:=by rw [←Vv,yap];rfl
 simp only [c57l0]
 simp -implicitDefEqProofs only [rX,↓rY,aA,cells?,↓reduceIte,Nat.reduceEqDiff,Nat.reduceAdd,reduceCtorEq,aG,dI,aB,aD,kill,St.kill,isD,Nat.reduceLT,Nat.reduceLeDiff,yav,Re hl,ei,rM,tk,b0,iB,Dc]
 intro _
 have hmod:((S.n:Int)+((k+1:Nat):Int)).tmod 64=(((m.length+1+k)%64:Nat):Int):=by
  rw [show ((S.n:Int)+((k+1:Nat):Int))=((m.length+1+k:Nat):Int) by omega]
  rfl
 refine ⟨⟨by simp only [lo];omega,by simp only [Fx.hi];omega⟩,by omega,?_⟩
 rw [hmod]
 cases hc:((((m.length+1+k)%64:Nat):Int) != 56) with
 | true =>
  have hc':(m.length+1+k)%64≠56:=by intro h;rw [h] at hc;simp at hc
  have hlt:k<zeros m.length:=by
   rcases Nat.lt_or_ge k (zeros m.length) with h|h
   ·exact h
   ·have:k=zeros m.length:=by omega
    rw [this] at hc';exact absurd hz hc'
  simp -implicitDefEqProofs only [↓rY]
  refine ⟨by omega,hN _ (k+1) (by omega) (by omega) ?_⟩
  exact ⟨by simp -implicitDefEqProofs only [rX,↓reduceIte,Nat.reduceEqDiff,leE],⟨aO _,aO _,aO _,trivial⟩,trivial,by simp -implicitDefEqProofs only [rX,aC,wfE,wfV],by simp -implicitDefEqProofs only [rX,wfB,iF,eD]⟩
 | false =>
  have hc':(m.length+1+k)%64=56:=by
   have h2:¬((((m.length+1+k)%64:Nat):Int)≠56):=fun h=>by rw [bne_iff_ne.2 h] at hc;cases hc
   omega
  have hke:k=zeros m.length:=by omega
  simp -implicitDefEqProofs only [↓rY]
  clear hN N hmod tk b0 hk
  refine fC (fun i:Nat=>(⟨[(23,.i i),(4,.sl 2 0 (k+1+i)),(3,n64 (8*S.n)),(2,.ptr 1 0 0),(1,.ptr 0 0 0)],[.var (sC S.st S.blk S.n),.var (us z32),.arr 1 ((pz k++l8 m.length i).map by1)],3⟩:St)) (fun i=>i≤8) (fun i=>8-i) 0 (yaz _) ?_ ?_
  ·exact ⟨by simp -implicitDefEqProofs only [rX,↓reduceIte,Nat.reduceEqDiff,leE];rfl,⟨aO _,aO _,by rw [show l8 m.length 0=[] from rfl,yar];exact aO _,trivial⟩,trivial,by simp -implicitDefEqProofs only [rX,aC,wfE,wfV],by simp -implicitDefEqProofs only [rX,wfB,iF,eD]⟩
  intro i hi N hN
  simp only [c57l1]
  simp -implicitDefEqProofs only [rX,↓rY,aA,cells?,↓reduceIte,Nat.reduceEqDiff,Nat.reduceAdd,reduceCtorEq,aG,dI,aB,aD,kill,St.kill,isD,Nat.reduceLT,Nat.reduceLeDiff,yav]
  cases h1:decide ((i:Int)<8) with
  | true =>
   have h1':=of_decide_eq_true h1
   have sh:∀ {K:V→Prop},b7 .shr .u64 ((8*S.n:Nat):Int) (56-8*(i:Int)) K=K (.v (.int .u64 ((8*S.n/2 ^ (56-8*i):Nat):Int))):=by
    intro K
    have h:b7 .shr .u64 ((8*S.n:Nat):Int) (56-8*(i:Int)) K=(0≤(56-8*(i:Int))∧K (.v (.int .u64 (Int.fdiv ((8*S.n:Nat):Int) (2 ^ (min (56-8*(i:Int)).toNat 64)))))):=rfl
    rw [h,show (56-8*(i:Int)).toNat=56-8*i by omega,ybG (by omega)]
    have h2:(2:Int) ^ (56-8*i)=((2 ^ (56-8*i):Nat):Int):=by simp
    rw [h2,ybd _ (yaT _),←Int.natCast_ediv]
    exact propext ⟨fun h=>h.2,fun h=>⟨by omega,h⟩⟩
   have cv:IntKind.u8.wrap ((8*S.n/2 ^ (56-8*i):Nat):Int)=((UInt8.ofNat (8*m.length/2 ^ (56-8*i))).toNat:Int):=by
    rw [hn,UInt8.toNat_ofNat']
    simp [IntKind.wrap,IntKind.bits,IntKind.signed]
   simp -implicitDefEqProofs only [rX,↓rY,kill,St.kill,↓sh,cv,iB,Dc,rM,Bn]
   have tk2:yah (k+1+i) (yac by1 (pz k++l8 m.length i))=yac by1 (pz k++l8 m.length i):=yaf (by rw [yat,yag,rM,Bn];exact yad _)
   rw [tk2]
   refine ⟨⟨by simp only [lo];omega,by simp only [Fx.hi];omega⟩,⟨by simp only [lo];omega,by simp only [Fx.hi];omega⟩,by omega,⟨by simp only [lo];omega,by simp only [Fx.hi];omega⟩,?_⟩
   refine hN _ (i+1) (by omega) (by omega) ?_
   exact ⟨by simp -implicitDefEqProofs only [rX,↓reduceIte,Nat.reduceEqDiff,leE];simp;omega,⟨aO _,aO _,by rw [agY,←yaq,yap (l₂:=[_])];exact aO _,trivial⟩,trivial,by simp -implicitDefEqProofs only [rX,aC,wfE,wfV],by simp -implicitDefEqProofs only [rX,wfB,iF,eD]⟩
  | false =>
   have h1':=of_decide_eq_false h1
   have:i=8:=by omega
   subst this
   have tk2:yah (k+1+8) (yac by1 (pz k++l8 m.length 8))=yac by1 (pz k++l8 m.length 8):=yaf (by rw [yat,yag,rM,Bn];exact yad _)
   simp -implicitDefEqProofs only [rX,↓rY,tk2,eV,Db,iN hl,dU hl,rM,Bn]
   refine ⟨.inr trivial,?_⟩
   clear hN N
   have hpd:pz k++l8 m.length 8=pad m.length:=by rw [hke];exact Vx
   rw [hpd]
   refine xM _ _ _ (Wb S m (pad m.length) h (by simp [pad,len8];omega)) ⟨⟨(d8 _ gM).1,trivial,trivial⟩,(d8 _ gM).2,rfl,trivial⟩ (fun g=>by simp only [ren,Stm.enc,t6]) trivial ?_
   intro S' hS'
   have hl':=hS'.len
   have hst':S'.st=Yi m:=hS'.st
   simp -implicitDefEqProofs only [rX,↓rY,aA,cells?,splice,↓reduceIte,Nat.reduceEqDiff,Nat.reduceAdd,aG,Stm.enc,iN hl',dU hl',Rg,dU hl,u0 hl,w32]
   refine fC (fun i:Nat=>(⟨[(40,.i i),(6,.ptr 3 0 0),(2,.ptr 1 0 0),(1,.ptr 0 0 0)],[.var (sC S'.st S'.blk S'.n),.var (us z32),.arr 1 ((pad m.length).map by1),.var (us (oB S'.st i))],4⟩:St)) (fun i=>i≤32) (fun i=>32-i) 0 (yaz _) ?_ ?_
   ·exact ⟨by simp -implicitDefEqProofs only [rX,↓reduceIte,Nat.reduceEqDiff,leE];rfl,⟨aO _,aO _,aO _,by rw [agU];exact aO _,trivial⟩,trivial,by simp -implicitDefEqProofs only [rX,aC,wfE,wfV],by simp -implicitDefEqProofs only [rX,wfB,iF,eD]⟩
   intro i hi N hN
   simp only [c57l2]
   simp -implicitDefEqProofs only [rX,↓rY,aA,cells?,splice,↓reduceIte,Nat.reduceEqDiff,Nat.reduceAdd,a8,bF,wfV,isC,yaj,yav]
   cases h1:decide ((i:Int)<32) with
   | true =>
    have h1':=of_decide_eq_true h1
    have lo':(oB S'.st i).length=32:=Wj hi
    have ed:Int.tdiv (i:Int) 4=((i/4:Nat):Int):=rfl
    have er:Int.tmod (i:Int) 4=((i%4:Nat):Int):=rfl
    have es:(24-8*((i%4:Nat):Int))=((24-8*(i%4):Nat):Int):=by omega
    have sh:∀ {x:W} {K:V→Prop},b7 .shr .u32 (x.toNat:Int) ((24-8*(i%4):Nat):Int) K=K (w (x >>> (24-8*(i%4)))):=fun {x K}=>Cc (by omega)
    have cv:IntKind.u8.wrap ((wn S'.st.l (i/4) >>> (24-8*(i%4))).toNat:Int)=((Bd S'.st i).toNat:Int):=by
     unfold Bd
     rw [UInt8.toNat_ofNat',ybY,ybZ]
     simp [IntKind.wrap,IntKind.bits,IntKind.signed]
    have sp:∀ x:UInt8,yah i (us (oB S'.st i))++[u8 x]++yas (i+1) (us (oB S'.st i))=us ((oB S'.st i).set i x):=fun x=>Lw (by omega)
    simp -implicitDefEqProofs only [rX,↓rY,Nat.reduceLeDiff,yaj,ed,er,es,↓sh,Rc (show i/4<8 by omega),cv,sp,fH,lo']
    refine ⟨by omega,⟨by simp only [lo];omega,by simp only [Fx.hi];omega⟩,by omega,by omega,⟨by simp only [lo];omega,by simp only [Fx.hi];omega⟩,⟨by simp only [lo];omega,by simp only [Fx.hi];omega⟩,by omega,by omega,⟨by simp only [lo];omega,by simp only [Fx.hi];omega⟩,?_⟩
    refine hN _ (i+1) (by omega) (by omega) ?_
    rw [Wi (by omega)]
    exact ⟨by simp -implicitDefEqProofs only [rX,↓reduceIte,Nat.reduceEqDiff,leE];simp,aF _,trivial,by simp -implicitDefEqProofs only [rX,aC,wfE,wfV],by simp -implicitDefEqProofs only [rX,wfB,iF,eD]⟩
   | false =>
    have h1':=of_decide_eq_false h1
    have:i=32:=by omega
    subst this
    have l32:((yaH 32).map (Bd S'.st)).length=32:=by simp
    have tk3:(us ((yaH 32).map (Bd S'.st))).take 32=us ((yaH 32).map (Bd S'.st)):=yaf (by rw [fH,l32];exact yad _)
    have dk3:(us z32).drop 32=[]:=yax (by rw [fH,tU];exact yad _)
    simp -implicitDefEqProofs only [rX,↓rY,abY,tk3,fH,l32,o6,tU,dk3,eD]
    rw [hst']
    rfl
set_option maxRecDepth 20000
set_option maxRecDepth 20000
theorem Wt:iv.enc=[.v (.int .u32 1779033703),.v (.int .u32 3144134277),.v (.int .u32 1013904242),.v (.int .u32 2773480762),.v (.int .u32 1359893119),.v (.int .u32 2600822924),.v (.int .u32 528734635),.v (.int .u32 1541459225)]:=rfl
theorem n5:((5:Nat):Int)=5:=rfl
theorem n6:((6:Nat):Int)=6:=rfl
set_option maxRecDepth 20000
theorem Az {m:Bs}:(sha m).length=32:=by simp [sha]
def z16:Bs:=yaa 16 0
theorem Hf:z16.length=16:=rfl
theorem w16:yac V.v (yaU 16 (Value.int IntKind.u8 0)).toList=us z16:=by unfold us;rfl
attribute [irreducible] z16
def cp (l:Bs) (i:Nat):Bs:=l.take i++yaa (16-i) 0
set_option maxRecDepth 20000
def S0:Stm:=⟨iv,yaa 64 0,0⟩
theorem rp0:Rp S0 []:=⟨rfl,rfl,rfl,rfl⟩
theorem Xw:S0.enc=iv.enc++(yaa 64 (u8 0)++[n64 0]):=by unfold Stm.enc sC;rfl
theorem Lj:nT.toList.length=73:=rfl
set_option maxHeartbeats 2000000 in
theorem agF:Ok 55 [] (Is (.agg S0.enc)):=by
 refine dX lw55 (by simp) ?_
 unfold c55
 simp -implicitDefEqProofs only [rX,↓rY,aA,cells?,splice,↓reduceIte,Nat.reduceAdd,reduceCtorEq,aG,cP,a8,bF,wfV,isC,Nat.reduceLeDiff,cxN,aV,Xw,Wt,Lj]
 refine ⟨yad _,?_,?_⟩
 ·simp [wfL,wfV]
 ·rfl
end Go.Fx.K
namespace Go.Fx.K
open Go Go.Fx
def zz (x:Int):Nat:=if 0≤x then (2*x).toNat else (-2*x-1).toNat
def vi (n:Nat):Bs:=if h:n<128 then [UInt8.ofNat n] else UInt8.ofNat (n%128+128)::vi (n/128)
termination_by n
decreasing_by omega
def nB (x:Int):Bs:=vi (zz x)
def tB (t:Bs):Bs:=nB t.length++t
def lB (l:List Int):Bs:=nB l.length++(l.map nB).flatten
def inB (k:Int) (l:List Bs):Bs:=UInt8.ofNat (k%256).toNat::(l.map tB).flatten
def fL (k:Int) (l:List Bs):Bs:=(sha (inB k l)).take 16
theorem Cq {n:Nat} (h:n<128):vi n=[UInt8.ofNat n]:=by rw [vi,dif_pos h]
theorem Lv {n:Nat} (h:¬n<128):vi n=UInt8.ofNat (n%128+128)::vi (n/128):=by rw [vi,dif_neg h]
theorem Ld {x:Int} (hx:-9223372036854775808≤x∧x≤9223372036854775807):zz x<18446744073709551616:=by unfold zz;split<;>omega
theorem wrap64 {x:Int}:IntKind.u64.wrap x=x%18446744073709551616:=by simp [IntKind.wrap,IntKind.bits,IntKind.signed]
theorem yD {x:Int}:IntKind.u8.wrap x=x%256:=by simp [IntKind.wrap,IntKind.bits,IntKind.signed]
theorem Qm {x:Int} (hx:-9223372036854775808≤x∧x≤9223372036854775807) :
  IntKind.u64.wrap ((yab 64 (IntKind.u64.wrap (IntKind.u64.wrap x*2)) ^^^ yab 64 (IntKind.u64.wrap (x.fdiv 9223372036854775808))).toNat:Int)=(zz x:Int):=by
 rw [wrap64 (x:=((BitVec.toNat _:Nat):Int))]
 have h64:∀ b:BitVec 64,((b.toNat:Nat):Int)%18446744073709551616=(b.toNat:Int):=fun b=>Int.emod_eq_of_lt (yaT _) (by have:=b.isLt;omega)
 rw [h64,wrap64,wrap64,wrap64,ybd _ (by omega)]
 unfold zz
 by_cases h:0≤x
 ·rw [if_pos h,show x/9223372036854775808=0 by omega,show x%18446744073709551616*2%18446744073709551616=2*x by omega]
  simp only [Int.zero_emod,BitVec.ofInt_ofNat,BitVec.xor_zero,ybQ]
  omega
 ·rw [if_neg h,show x/9223372036854775808=-1 by omega,show x%18446744073709551616*2%18446744073709551616=2*x+18446744073709551616 by omega,show (-1:Int)%18446744073709551616=18446744073709551615 from rfl]
  have e1:yab 64 18446744073709551615=BitVec.allOnes 64:=ybH (by rw [ybQ,BitVec.toNat_allOnes];omega)
  rw [e1,BitVec.xor_allOnes,BitVec.toNat_not,ybQ]
  omega
theorem aaV {n:Nat} (h:n<18446744073709551616):IntKind.u8.wrap ((yab 8 (IntKind.u8.wrap (n:Int)) ||| yab 8 128).toNat:Int)=((UInt8.ofNat (n%128+128)).toNat:Int):=by
 rw [yD,yD]
 have h8:∀ b:BitVec 8,((b.toNat:Nat):Int)%256=(b.toNat:Int):=fun b=>Int.emod_eq_of_lt (yaT _) (by have:=b.isLt;omega)
 rw [h8]
 have key:∀ m:Fin 256,(yaF 8 m.val ||| 128#8).toNat=m.val%128+128:=by decide +kernel
 have:=key ⟨n%256,by omega⟩
 simp only at this
 have e:yab 8 ((n:Int)%256)=yaF 8 (n%256):=by
  rw [show ((n:Int)%256)=((n%256:Nat):Int) by omega,ybX]
 rw [e,show yab 8 128=128#8 by rfl,this,UInt8.toNat_ofNat']
 omega
theorem Lx {n:Nat} (h:n<128):IntKind.u8.wrap (n:Int)=((UInt8.ofNat n).toNat:Int):=by
 rw [yD,UInt8.toNat_ofNat'];omega
theorem Hm:∀ (k n:Nat),n<128 ^ (k+1)→(vi n).length≤k+1
 | 0,n,h=>by rw [Cq (by omega)];simp
 | k+1,n,h=>by
  by_cases hn:n<128
  ·rw [Cq hn];simp
  ·rw [Lv hn,yaw]
   have:=Hm k (n/128) (by rw [Nat.div_lt_iff_lt_mul (by omega),←Nat.pow_succ];exact h)
   omega
theorem Lu {n:Nat} (h:n<18446744073709551616):(vi n).length≤10:=Hm 9 n (by omega)
theorem vL {x:Int} (hx:-9223372036854775808≤x∧x≤9223372036854775807):(nB x).length≤10:=Lu (Ld hx)
open Go Go.Fx Go.Proofs
set_option maxRecDepth 20000
theorem afF {a b:Int} {K:V→Prop}:b7 .shl .u64 a b K=(0≤b∧K (.v (.int .u64 (IntKind.u64.wrap (a*2 ^ (min b.toNat 64)))))):=rfl
theorem afE {a b:Int} {K:V→Prop}:b7 .shr .u64 a b K=(0≤b∧K (.v (.int .u64 (a.fdiv (2 ^ (min b.toNat 64)))))):=rfl
theorem sri {a b:Int} {K:V→Prop}:b7 .shr .i64 a b K=(0≤b∧K (.v (.int .i64 (a.fdiv (2 ^ (min b.toNat 64)))))):=rfl
theorem aeZ {a c:Int} {K:V→Prop} {x:Bool}:bQ .xor x .u64 a c K=K (.v (.int .u64 (IntKind.u64.wrap ((yab 64 a ^^^ yab 64 c).toNat:Int)))):=rfl
theorem or8 {a c:Int} {K:V→Prop} {x:Bool}:bQ .or x .u8 a c K=K (.v (.int .u8 (IntKind.u8.wrap ((yab 8 a ||| yab 8 c).toNat:Int)))):=rfl
theorem p1:(2:Int) ^ (min (1:Int).toNat 64)=2:=rfl
theorem p63:(2:Int) ^ (min (63:Int).toNat 64)=9223372036854775808:=rfl
theorem p7:(2:Int) ^ (min (7:Int).toNat 64)=128:=rfl
theorem Nx {fx:List Nat} {f:(St→Prop)→St→Prop} {s s0:St} (hgh:dM fx s s0) {G:Type} (pat:G→St) (I:G→Prop) (μ:G→Nat) (g:G) (h0:I g) (h1:leS fx s0 (pat g))
  (h:∀ g,I g→∀ N:St→Prop,(∀ s' g',I g'→μ g'<μ g→leS fx s' (pat g')→N s')→f N (pat g)):yV fx f s :=
 iO hgh pat I μ g h0 h1 fun g hg=>h g hg _ fun s' g' a b c=>⟨g',⟨a,b⟩,c⟩
theorem acR {n:Nat}:((n:Int).fdiv 128)=((n/128:Nat):Int):=by rw [ybd _ (by omega)];rfl
structure VI (x:Nat) (g:Bs × Nat):Prop where
 e:vi x=g.1++vi g.2
 lt:g.2<18446744073709551616
 len:g.1.length≤10
theorem VI.next {x:Nat} {L:Bs} {n:Nat} (h:VI x (L,n)) (hx:x<18446744073709551616) (hn:¬n<128):VI x (L++[UInt8.ofNat (n%128+128)],n/128):=by
 have he:=h.e
 have hl:=Lu hx
 have:=h.lt
 simp only at he this
 rw [Lv hn] at he
 refine ⟨by simp only;rw [he];simp,by simp only;omega,?_⟩
 rw [he] at hl
 simp only [yag,yaw,yaJ] at hl ⊢
 omega
set_option maxHeartbeats 1000000 in
theorem Wa (x:Int) (hx:-9223372036854775808≤x∧x≤9223372036854775807):Ok 59 [.i x] (IsA (.sl 0 0 (nB x).length) [.arr 1 ((nB x).map by1)]):=by
 refine dX lw59 (by simp) ?_
 unfold c59
 simp -implicitDefEqProofs only [rX,aA,↓reduceIte,Nat.reduceEqDiff,reduceCtorEq,cxN,aV,↓afF,↓sri,↓aeZ,p1,p63,Qm hx]
 refine ⟨by omega,by omega,?_⟩
 refine Nx (.virt 1 1 (by decide) (.nilE 4 0 rfl (.refl _))) (fun g:Bs × Nat=>(⟨[(4,.sl 0 0 g.1.length),(3,n64 g.2)],[.arr 1 (g.1.map by1)],0⟩:St)) (VI (zz x)) (fun g=>g.2) ([],zz x) ⟨rfl,Ld hx,by simp⟩ ?_ ?_
 ·exact ⟨by simp -implicitDefEqProofs only [rX,↓reduceIte,Nat.reduceEqDiff,leE],aF _,trivial,by simp -implicitDefEqProofs only [rX,aC,wfE,wfV],by simp -implicitDefEqProofs only [wfB]⟩
 rintro ⟨L,n⟩ hI N hN
 have hlt:=hI.lt
 have hlen:=hI.len
 have he:=hI.e
 simp only at hlt hlen he
 have tk:yah L.length (yac by1 L)=yac by1 L:=yaf (by rw [yat];exact yad _)
 simp only [c59l0]
 simp -implicitDefEqProofs only [rX,↓rY,aA,cells?,↓reduceIte,Nat.reduceEqDiff,Nat.reduceAdd,reduceCtorEq,aG,dI,aB,aD,kill,St.kill,isD,Nat.reduceLT,Nat.reduceLeDiff,yav]
 cases h1:decide ((n:Int)>127) with
 | true =>
  have h1':=of_decide_eq_true h1
  simp -implicitDefEqProofs only [rX,↓rY,kill,St.kill,isD,↓or8,↓afE,p7,aaV hlt,acR,tk]
  refine ⟨by omega,by omega,hN _ (L++[UInt8.ofNat (n%128+128)],n/128) (hI.next (Ld hx) (by omega)) (by simp only;omega) ?_⟩
  exact ⟨by simp -implicitDefEqProofs only [rX,↓reduceIte,Nat.reduceEqDiff,leE],⟨by rw [yap];exact aO _,trivial⟩,trivial,by simp -implicitDefEqProofs only [rX,aC,wfE,wfV],by simp -implicitDefEqProofs only [wfB]⟩
 | false =>
  have h1':=of_decide_eq_false h1
  have hv:nB x=L++[UInt8.ofNat n]:=by unfold nB;rw [he,Cq (by omega)]
  simp -implicitDefEqProofs only [↓rY,Lx (show n<128 by omega),tk]
  refine ⟨by omega,?_⟩
  simp -implicitDefEqProofs only [rX,↓reduceIte,a8,bF,leH,leB,aJ,aC,wfB,wfV,Nat.reduceLeDiff,dG,hv,yap]
  rfl
set_option maxRecDepth 20000
theorem rE {t:Bs} (h:t.length≤140737488355000):(tB t).length≤t.length+10:=by
 have:=vL (x:=(t.length:Int)) (by omega)
 simp only [tB,yag];omega
set_option maxHeartbeats 1000000 in
theorem abA (t:Bs) (ht:t.length≤140737488355000):Ok 53 [sv t] (IsA (.sl 1 0 (tB t).length) [.dead,.arr 1 ((tB t).map by1)]):=by
 refine dX lw53 (by simp) ?_
 unfold c53
 simp -implicitDefEqProofs only [rX,↓rY,aA,↓reduceIte,reduceCtorEq,cxN,e7,aV]
 have hn:-9223372036854775808≤((t.length:Nat):Int)∧((t.length:Nat):Int)≤9223372036854775807:=by omega
 have hl:=vL hn
 have tk:yah (nB t.length).length (yac by1 (nB t.length))=yac by1 (nB t.length):=yaf (by rw [yat];exact yad _)
 refine gA _ _ (.sl 1 0 (nB t.length).length) _ [.arr 1 ((nB t.length).map by1)] (Wa (t.length:Int) hn) (by simp [aN,aY,aX,cG,wkL,wk,wkR,e7]) (by simp [ren]) (by simp [bB]) trivial ?_
 simp -implicitDefEqProofs only [rX,↓rY,↓reduceIte,Nat.reduceEqDiff,Nat.reduceAdd,reduceCtorEq,a8,bF,leH,leB,aJ,aC,wfB,wfV,aB,aD,kill,St.kill,Nat.reduceLeDiff,yav,Me,dG,tk,tB,yap]
 omega
def i1 (x:Int):List V:=[.i x]
theorem agZ {x:Int}:(i1 x)[0]?=some (.i x):=rfl
abbrev bI (l:List Int):V:=.bro 1 (l.map i1)
def In64 (l:List Int):Prop:=∀ x∈l,-9223372036854775808≤x∧x≤9223372036854775807
def lBk (l:List Int) (k:Nat):Bs:=nB l.length++((l.take k).map nB).flatten
theorem Oe {l:List Int}:lBk l 0=nB l.length:=by simp [lBk]
theorem Od {l:List Int} {k:Nat} (h:k<l.length):lBk l (k+1)=lBk l k++nB l[k]:=by
 unfold lBk
 rw [←yce h,yap,ycf,yaq]
 simp
theorem Io {l:List Int}:lBk l l.length=lB l:=by simp [lBk,lB]
theorem Bm {l:List Int} (hl:In64 l) (hn:l.length≤1000000000000):∀ {k:Nat},k≤l.length→(lBk l k).length≤10+10*k
 | 0,_=>by rw [Oe];exact vL (by omega)
 | k+1,h=>by
  rw [Od h,yag]
  have:=Bm hl hn (k:=k) (by omega)
  have:=vL (hl _ (List.getElem_mem h))
  omega
theorem Of {l:List Int} (hl:In64 l) (hn:l.length≤1000000000000):(lB l).length≤10+10*l.length:=by rw [←Io];exact Bm hl hn (yad _)
attribute [irreducible] lBk
set_option maxHeartbeats 1000000 in
theorem agD (l:List Int) (hl:In64 l) (hn:l.length≤1000000000000):Ok 58 [bI l,.clo 59 []] (IsA (.sl 0 0 (lB l).length) [.arr 1 ((lB l).map by1)]):=by
 refine dX lw58 (by simp) ?_
 unfold c58
 simp -implicitDefEqProofs only [rX,↓rY,aA,↓reduceIte,reduceCtorEq,cxN,aV]
 intro _
 refine gA _ _ (.sl 0 0 (nB l.length).length) _ [.arr 1 ((nB l.length).map by1)] (Wa (l.length:Int) (by omega)) (by simp [aN,aY,aX,cG,wkL,wk,wkR,e7]) (by simp [ren]) (by simp [bB]) trivial ?_
 simp -implicitDefEqProofs only [rX,↓rY,aA,↓reduceIte,reduceCtorEq]
 intro _
 refine fC (fun k:Nat=>(⟨[(13,.i k),(12,.i l.length),(11,bI l),(5,.sl 0 0 (lBk l k).length),(1,.clo 59 [])],[.arr 1 ((lBk l k).map by1)],0⟩:St)) (fun k=>k≤l.length) (fun k=>l.length-k) 0 (yaz _) ?_ ?_
 ·exact ⟨by simp -implicitDefEqProofs only [rX,↓reduceIte,Nat.reduceEqDiff,reduceCtorEq,leE,Oe];rfl,⟨by rw [Oe];exact aO _,trivial⟩,trivial,by simp -implicitDefEqProofs only [rX,aC,wfE,wfV,wfL],by simp -implicitDefEqProofs only [wfB]⟩
 intro k hk N hN
 have hbl:=Bm hl hn hk
 have tk:yah (lBk l k).length (yac by1 (lBk l k))=yac by1 (lBk l k):=yaf (by rw [yat];exact yad _)
 simp only [c58l0]
 simp -implicitDefEqProofs only [rX,↓rY,↓reduceIte,Nat.reduceEqDiff,yaC,yaj]
 cases h1:decide ((k:Int)<(l.length:Int)) with
 | true =>
  have h1':=of_decide_eq_true h1
  have hk':k<l.length:=by omega
  have hx:=hl _ (List.getElem_mem hk')
  have hb2:=vL hx
  simp -implicitDefEqProofs only [↓rY,yak hk',agZ]
  refine ⟨by omega,hk',?_⟩
  refine gA _ _ (.sl 2 0 (nB l[k]).length) _ [.arr 1 ((nB l[k]).map by1)] (Wa l[k] hx) (by simp [aN,aY,aX,cG,wkL,wk,wkR,e7]) (by simp [ren]) (by simp [bB]) trivial ?_
  have tk2:yah (nB l[k]).length (yac by1 (nB l[k]))=yac by1 (nB l[k]):=yaf (by rw [yat];exact yad _)
  simp -implicitDefEqProofs only [rX,↓rY,aA,↓reduceIte,Nat.reduceEqDiff,Nat.reduceAdd,reduceCtorEq,aB,aD,kill,bK,St.kill,yav,tk,tk2]
  refine ⟨.inr trivial,by omega,⟨by simp only [lo];omega,by simp only [Fx.hi];omega⟩,hN _ (k+1) (by omega) (by omega) ?_⟩
  exact ⟨by simp -implicitDefEqProofs only [rX,↓reduceIte,Nat.reduceEqDiff,leE,Od hk'];rfl,⟨by rw [Od hk',yap];exact aO _,trivial⟩,trivial,by simp -implicitDefEqProofs only [rX,aC,wfE,wfV,wfL],by simp -implicitDefEqProofs only [wfB]⟩
 | false =>
  have h1':=of_decide_eq_false h1
  have:k=l.length:=by omega
  subst this
  simp -implicitDefEqProofs only [rX,↓rY,↓reduceIte,a8,bF,leH,leB,aJ,aC,wfB,wfV,Nat.reduceLeDiff,dG,Io]
theorem abD (l:List Int) (hl:In64 l) (hn:l.length≤1000000000000):Ok 44 [bI l] (IsA (.sl 0 0 (lB l).length) [.arr 1 ((lB l).map by1)]):=by
 refine dX lw44 (by simp) ?_
 unfold c44
 simp -implicitDefEqProofs only [rX,aA,↓reduceIte,reduceCtorEq,cxN,aV]
 refine gA _ _ (.sl 0 0 (lB l).length) _ [.arr 1 ((lB l).map by1)] (agD l hl hn) (by simp [aN,aY,aX,cG,wkL,wk,wkR,wkB]) (by simp [ren]) (by simp [bB]) trivial ?_
 simp -implicitDefEqProofs only [rX,↓reduceIte,a8,bF,leH,leB,aJ,aC,wfB,wfV,Nat.reduceLeDiff,dG]
set_option maxRecDepth 20000
def sqL:LCode→LCode
 | .seq a _=>a
 | x=>x
def sqR:LCode→LCode
 | .seq _ b=>b
 | x=>x
def s1 (t:Bs):List V:=[sv t]
theorem afW {t:Bs}:(s1 t)[0]?=some (sv t):=rfl
abbrev bS (l:List Bs):V:=.bro 1 (l.map s1)
def inK (k:Int) (l:List Bs) (n:Nat):Bs:=UInt8.ofNat (k%256).toNat::((l.take n).map tB).flatten
theorem Om {k:Int} {l:List Bs} {n:Nat} (h:n<l.length):inK k l (n+1)=inK k l n++tB l[n]:=by
 unfold inK
 rw [←yce h,yap,ycf,ybw]
 simp
theorem Iq {k:Int} {l:List Bs}:inK k l l.length=inB k l:=by simp [inK,inB]
theorem acI {k:Int} {l:List Bs}:inK k l 0=[UInt8.ofNat (k%256).toNat]:=by simp [inK]
theorem Oo {k:Int} {l:List Bs}:∀ (d n:Nat),n+d=l.length→(inK k l n).length≤(inB k l).length
 | 0,n,h=>by rw [←Iq,←h];exact yad _
 | d+1,n,h=>by
  refine ybz ?_ (Oo d (n+1) (by omega))
  rw [Om (by omega),yag];omega
theorem On {k:Int} {l:List Bs} {n:Nat} (h:n<l.length):(inK k l n).length+(tB l[n]).length≤(inB k l).length∧l[n].length≤(inB k l).length:=by
 have:=Oo (k:=k) (l:=l) (l.length-(n+1)) (n+1) (by omega)
 rw [Om h,yag] at this
 refine ⟨this,ybz ?_ (ybz (Nat.le_add_left _ _) this)⟩
 simp [tB]
attribute [irreducible] inK
theorem b9 {k:Int} {l:List Bs}:(fL k l).length=16:=by unfold fL;rw [yau,Az];rfl
def c70r:LCode:=sqR (sqR c43)
theorem c70_eq:c43=.seq (sqL c43) (.seq (sqL (sqR c43)) c70r):=rfl
theorem adE {k:Int}:IntKind.u8.wrap k=((UInt8.ofNat (k%256).toNat).toNat:Int):=by rw [yD,UInt8.toNat_ofNat'];omega
set_option maxHeartbeats 2000000 in
theorem adV (k:Int) (l:List Bs) (hB:(inB k l).length≤1000000000000) (S:Stm) (hS:Rp S (inK k l 0)) (els:List (List V)) (e:Env) (b:Nat) (h1:get e 1=bS l) (h4:get e 4=.ptr 0 0 0) (h5:get e 5=.ptr 2 0 0) :
  aw (cxN Tryd.prog []) c70r (cE [] 0 [d7.cell 4 (some 16)] (Is (.agg (us (fL k l))))) (fun _ _=>False) (cE [] 0 [d7.cell 4 (some 16)] (Is (.agg (us (fL k l))))) ⟨e,[.var (us z16),.arr 1 els,.var S.enc],b⟩:=by
 unfold c70r
 simp -implicitDefEqProofs only [rX,↓rY,c43,sqR,aA,↓reduceIte,Nat.reduceAdd,cxN,h1]
 intro hml
 simp only [maxLen] at hml
 refine fC (fun g:Nat × Stm=>(⟨[(17,.i g.1),(16,.i l.length),(15,bS l),(5,.ptr 2 0 0),(4,.ptr 0 0 0)],[.var (us z16),.dead,.var (sC g.2.st g.2.blk g.2.n)],3⟩:St)) (fun g=>g.1≤l.length∧Rp g.2 (inK k l g.1)) (fun g=>l.length-g.1) (0,S) ⟨yaz _,hS⟩ ?_ ?_
 ·exact ⟨by simp -implicitDefEqProofs only [rX,↓reduceIte,Nat.reduceEqDiff,leE,h4,h5];rfl,⟨aO _,trivial,aO _,trivial⟩,trivial,by simp -implicitDefEqProofs only [rX,aC,wfE,wfV],by simp -implicitDefEqProofs only [rX,wfB,iF,eD]⟩
 rintro ⟨n,S⟩ ⟨hn,hS⟩ N hN
 simp only at hn hS
 have hl:=hS.len
 simp only [c43l0]
 simp -implicitDefEqProofs only [rX,↓rY,rdK,↓reduceIte,Nat.reduceEqDiff,Nat.reduceAdd,yaC,yaj]
 cases h1:decide ((n:Int)<(l.length:Int)) with
 | true =>
  have h1':=of_decide_eq_true h1
  have hn':n<l.length:=by omega
  simp -implicitDefEqProofs only [rX,↓rY,yak hn',afW,iN hl,dU hl]
  have hp:=On (k:=k) hn'
  refine ⟨by omega,hn',?_⟩
  refine gA _ _ (.sl 4 0 (tB l[n]).length) _ [.dead,.arr 1 ((tB l[n]).map by1)] (abA l[n] (by omega)) (by simp [aN,aY,aX,cG,wkL,wk,wkR,e7]) (by simp [ren]) (by simp [bB]) trivial ?_
  have tk:yah (tB l[n]).length (yac by1 (tB l[n]))=yac by1 (tB l[n]):=yaf (by rw [yat];exact yad _)
  simp -implicitDefEqProofs only [rX,↓rY,↓reduceIte,Nat.reduceEqDiff,tk,eV,Db]
  refine ⟨.inr trivial,?_⟩
  refine xM _ _ _ (Wb S _ (tB l[n]) hS (by omega)) ⟨⟨(d8 _ gM).1,trivial,trivial⟩,(d8 _ gM).2,rfl,trivial⟩ (fun g=>by simp only [ren,Stm.enc,t6]) trivial ?_
  intro S' hS'
  have hl':=hS'.len
  simp -implicitDefEqProofs only [rX,↓rY,aA,cells?,splice,↓reduceIte,Nat.reduceEqDiff,Nat.reduceAdd,Stm.enc,iN hl',dU hl',Rg,dU hl,u0 hl]
  rw [←Om hn'] at hS'
  refine ⟨⟨by simp only [lo];omega,by simp only [Fx.hi];omega⟩,hN _ (n+1,S') ⟨by simp only;omega,hS'⟩ (by simp only;omega) ?_⟩
  exact ⟨by simp -implicitDefEqProofs only [rX,↓reduceIte,Nat.reduceEqDiff,leE];rfl,⟨aO _,trivial,aO _,trivial⟩,trivial,by simp -implicitDefEqProofs only [rX,aC,wfE,wfV],by simp -implicitDefEqProofs only [rX,wfB,iF,eD]⟩
 | false =>
  have h1':=of_decide_eq_false h1
  have:n=l.length:=by omega
  subst this
  rw [Iq] at hS
  simp -implicitDefEqProofs only [rX,↓rY,iN hl,dU hl]
  refine bE (agE S _ hS (by omega)) ⟨⟨(d8 _ gM).1,trivial⟩,(d8 _ gM).2,trivial⟩ (by simp [ren,cM]) trivial ?_
  have tks:(us (sha (inB k l))).take 32=us (sha (inB k l)):=yaf (by rw [fH,Az];exact yad _)
  have dz:(us z32).drop 32=[]:=yax (by rw [fH,tU];exact yad _)
  simp -implicitDefEqProofs only [rX,↓rY,aA,cells?,splice,↓reduceIte,Nat.reduceEqDiff,Nat.reduceAdd,aG,bY,a8,bF,wfV,Nat.reduceLT,Nat.reduceLeDiff,w32,fH,o6,Az,tU,dz]
  have h16:yah 16 (yas (yaD 0) (us (sha (inB k l))))=us (fL k l):=by rw [show yaD 0=0 from rfl,ybo,tX];rfl
  have l16:=b9 (k:=k) (l:=l)
  have dz6:(us z16).drop 16=[]:=yax (by rw [fH,Hf];exact yad _)
  have tk3:(us (fL k l)).take 16=us (fL k l):=yaf (by rw [fH,l16];exact yad _)
  rw [h16,fH,l16,dz6,yar,tk3,Hf]
  exact ⟨⟨⟨by omega,by omega⟩,by omega,by omega⟩,by decide,by decide,rfl,o6,by omega,by simp,eD,rfl⟩
set_option maxHeartbeats 4000000 in
theorem abE (k:Int) (l:List Bs) (hB:(inB k l).length≤1000000000000):Ok 43 [.i k,bS l] (Is (.agg (us (fL k l)))):=by
 refine dX lw43 (by simp) ?_
 have t73:∀ {S:Stm},Rp S (inK k l 0)→(S.enc).length=73∧(S.enc).take 73=S.enc∧S.enc.all isC=true:=fun {S} h=>⟨dU h.len,iN h.len,Rg⟩
 have d73:(yac V.v nT.toList).drop 73=[]:=rfl
 have hd:UInt8.ofNat (k%256).toNat::[]=inK k l 0:=acI.symm
 have by0:by1 (UInt8.ofNat (k%256).toNat)=[V.v (.int .u8 ((UInt8.ofNat (k%256).toNat).toNat:Int))]:=rfl
 have bo:bytesOf [[V.v (.int .u8 ((UInt8.ofNat (k%256).toNat).toNat:Int))]]=some (inK k l 0):=by rw [←hd,←by0];exact eV [_]
 have i0:(inK k l 0).length=1:=by rw [←hd];rfl
 have o97:Ok 56 [.agg S0.enc,sv (inK k l 0)] (IsQ (fun S'=>Rp S' (inK k l 0)) (fun S'=>.agg S'.enc) (fun _=>[])):=by
  have:=Wb S0 [] (inK k l 0) rp0 (by rw [i0];decide)
  simpa using this
 rw [c70_eq]
 simp -implicitDefEqProofs only [rX,↓rY,c43,sqL,sqR,aA,cells?,↓reduceIte,Nat.reduceEqDiff,Nat.reduceAdd,reduceCtorEq,aG,dI,isD,Nat.reduceLT,cxN,aV,w16,adE,bo,Db]
 repeat' first
  | exact adV k l hB _ (by assumption) _ _ _ rfl rfl rfl
  | refine And.intro ?_ ?_
  | (refine bE agF ⟨trivial,trivial⟩ (by simp only [ren,Stm.enc,t6]) trivial ?_
     simp -implicitDefEqProofs only [rX,↓rY,aA,cells?,↓reduceIte,Nat.reduceEqDiff,Nat.reduceAdd,reduceCtorEq,aG,dI,isD,Nat.reduceLT,bo,Db])
  | (refine xM _ _ _ o97 ⟨⟨(d8 _ gM).1,trivial,trivial⟩,(d8 _ gM).2,rfl,trivial⟩ (fun g=>by simp only [ren,Stm.enc,t6]) trivial ?_
     intro S hS
     simp -implicitDefEqProofs only [rX,↓rY,aA,cells?,splice,↓reduceIte,Nat.reduceEqDiff,Nat.reduceAdd,aG,Lj,d73,(t73 hS).1,(t73 hS).2.1,(t73 hS).2.2])
set_option maxRecDepth 20000
theorem Wc (s k:Int) (hs:0≤s∧s≤100000) (hk:0≤k∧k≤100000):Ok 39 [.i s,.i k] (Is (.i (s*129+1+k*8))):=by
 refine dX lw39 (by simp) ?_
 unfold c39
 simp -implicitDefEqProofs only [rX,↓rY,aA,↓reduceIte,Nat.reduceEqDiff,reduceCtorEq,a8,bF,wfV,cxN,aV]
 refine ⟨⟨?_,?_⟩,⟨?_,?_⟩,⟨?_,?_⟩,?_,?_⟩<;>simp only [lo,Fx.hi]<;>omega
def gst (n:Int) (b:UInt8):Int:=IntKind.i64.wrap ((yab 64 (IntKind.i64.wrap (n*2 ^ 8)) ||| yab 64 (b.toNat:Int)).toNat:Int)
def cJ (l:Bs):Int:=l.foldl gst 0
theorem Kn {l:Bs} {k:Nat} (h:k<l.length):cJ (l.take (k+1))=gst (cJ (l.take k)) l[k]:=by
 unfold cJ
 rw [List.take_add_one,yak h,ybR];rfl
theorem abQ (l:Bs):Ok 22 [byV l] (Is (.i (cJ l))):=by
 refine dX lw22 (by simp) ?_
 unfold c22
 simp -implicitDefEqProofs only [rX,↓rY,aA,↓reduceIte,reduceCtorEq,cxN,aV]
 intro hl
 unfold maxLen at hl
 refine aZ (fun k:Nat=>(⟨[(8,.i k),(7,.i l.length),(6,byV l),(3,.i (cJ (l.take k)))],[],0⟩:St)) (fun k=>k≤l.length) (fun k=>l.length-k) 0 (yaz _) ?_ ?_
 ·simp -implicitDefEqProofs only [rX,↓reduceIte,Nat.reduceEqDiff,leE,leH,aJ,wfE,wfB,wfV]
  exact ⟨rfl,rfl⟩
 intro k hk
 unfold c22l0
 simp -implicitDefEqProofs only [rX,↓rY,aA,↓reduceIte,Nat.reduceEqDiff,a8,bF,leE,leH,aJ,wfE,wfB,wfV,yaC,yaj,Jl]
 cases hd:decide ((k:Int)<(l.length:Int)) with
 | false =>
  have hd':=of_decide_eq_false hd
  have:k=l.length:=by omega
  subst this
  simp -implicitDefEqProofs only [↓rY,yby]
 | true =>
  have hd':=of_decide_eq_true hd
  have hkl:k<l.length:=by omega
  simp -implicitDefEqProofs only [↓rY]
  have hb:l[k].toNat<256:=UInt8.toNat_lt _
  refine ⟨⟨by omega,by omega⟩,hkl,(by decide:(0:Int)≤8),⟨by simp only [lo];omega,by simp only [Fx.hi];omega⟩,rfl,⟨by simp only [lo];omega,by simp only [Fx.hi];omega⟩,k+1,⟨by omega,by omega⟩,by omega,?_⟩
  rw [Kn hkl]
  rfl
def byB (x:Int):UInt8:=UInt8.ofNat (IntKind.u8.wrap x).toNat
def wrN:Nat→Int→Bs
 | 0,_=>[]
 | n+1,x=>wrN n (x.fdiv (2 ^ 8))++[byB x]
theorem cC:∀ {n:Nat} {x:Int},(wrN n x).length=n
 | 0,_=>rfl
 | n+1,x=>by unfold wrN;rw [yag,cC];rfl
def eO (L:Bs) (a n:Nat) (x:Int):Bs:=L.take a++wrN n x++L.drop (a+n)
theorem Tj {x:Int}:V.v (.int .u8 (IntKind.u8.wrap x))=u8 (byB x):=by
 have h:0≤IntKind.u8.wrap x∧IntKind.u8.wrap x<256:=by
  simp only [IntKind.wrap]
  constructor
  ·exact Int.emod_nonneg _ (by decide)
  ·exact Int.emod_lt_of_pos _ (by decide)
 unfold byB
 show _=V.v (.int .u8 ((UInt8.ofNat _).toNat:Int))
 rw [UInt8.toNat_ofNat']
 congr 2
 omega
structure PuI (L:Bs) (a n:Nat) (x:Int) (g:Nat × Int × Bs):Prop where
 le:g.1≤n
 len:g.2.2.length=n-g.1
 eq:wrN g.1 g.2.1++g.2.2=wrN n x
def pS (L:Bs) (a n:Nat) (g:Nat × Int × Bs):Bs:=L.take (a+g.1)++g.2.2++L.drop (a+n)
theorem Vy {L:Bs} {a n:Nat} {x:Int} {g:Nat × Int × Bs} (h:a+n≤L.length) (hI:PuI L a n x g):(pS L a n g).length=L.length:=by
 have:=hI.le
 have:=hI.len
 unfold pS
 simp
 omega
theorem Ru (L:Bs) (a n:Nat) (x:Int) (h:a+n≤L.length):OkN Tryd.prog 42 [.sl 0 a n,.i x] [.var (us L)] [] (IsA (.tup []) [.var (us (eO L a n x))]):=by
 refine fJ pol [0] lw42 (by simp) ⟨trivial,trivial⟩ (by simp) ?_
 unfold c42
 simp -implicitDefEqProofs only [rX,↓rY,aA,↓reduceIte,cxN,aV]
 intro hn
 unfold maxLen at hn
 refine ⟨by simp only [lo,Fx.hi];omega,?_⟩
 unfold c42l0
 refine aZ (fun g:Nat × Int × Bs=>(⟨[(4,.i ((g.1:Int)-1)),(0,.sl 0 a n),(1,.i g.2.1)],[.var (us (pS L a n g))],1⟩:St)) (PuI L a n x) (fun g=>g.1) (n,x,[]) ⟨yad _,by simp,by simp⟩ ?_ ?_
 ·have e:pS L a n (n,x,[])=L:=by unfold pS;simp
  simp -implicitDefEqProofs only [rX,↓reduceIte,Nat.reduceEqDiff,reduceCtorEq,leE,leH,leB,aJ,aC,wfE,wfB,wfV,e]
  exact ⟨gW _,eD⟩
 rintro ⟨m,y,M⟩ hI
 have hlen:=Vy h hI
 obtain ⟨h1,h2,h3⟩:=hI
 simp only at h1 h2 h3
 simp -implicitDefEqProofs only [rX,↓rY,aA,cells?,splice,↓reduceIte,Nat.reduceEqDiff,eB,reduceCtorEq,leE,leH,leB,aJ,aC,wfE,wfB,wfV,isC]
 cases hd:decide ((0:Int)≤(m:Int)-1) with
 | false =>
  have hd':=of_decide_eq_false hd
  obtain rfl:m=0:=by omega
  have e:pS L a n (0,y,M)=eO L a n x:=by
   have h4:M=wrN n x:=h3
   unfold pS eO
   rw [←h4];rfl
  simp -implicitDefEqProofs only [rX,↓rY,a8,bF,leH,leB,aJ,aC,wfB,wfV,wfL,dG,e]
  exact ⟨gW _,eD⟩
 | true =>
  have hd':=of_decide_eq_true hd
  simp -implicitDefEqProofs only [↓rY,Tj]
  have hm:(((m:Int)-1).toNat)=m-1:=by omega
  rw [hm,fH]
  refine ⟨⟨by omega,by omega⟩,by omega,(by decide:(0:Int)≤8),⟨by simp only [lo];omega,by simp only [Fx.hi];omega⟩,(m-1,y.fdiv (2 ^ 8),byB y::M),⟨⟨by simp only;omega,by simp only [yaw];omega,?_⟩,by simp only;omega⟩,⟨by simp only;omega,rfl⟩,?_,eD⟩
  ·obtain ⟨k,rfl⟩:∃ k,m=k+1:=⟨m-1,by omega⟩
   rw [←h3]
   show wrN k _++(byB y::M)=wrN (k+1) y++M
   have e:wrN (k+1) y=wrN k (y.fdiv (2 ^ 8))++[byB y]:=rfl
   rw [e,yaq];rfl
  ·have e:pS L a n (m-1,y.fdiv (2 ^ 8),byB y::M)=(pS L a n (m,y,M)).set (a+(m-1)) (byB y):=by
    obtain ⟨k,rfl⟩:∃ k,m=k+1:=⟨m-1,by omega⟩
    have hk:a+k<L.length:=by omega
    have e1:L.take (a+(k+1))=L.take (a+k)++[L[a+k]]:=by rw [←ybJ,List.take_add_one,yak hk];rfl
    have e2:(L.take (a+k)).length=a+k:=by rw [yau];omega
    unfold pS
    simp only [Nat.add_sub_cancel]
    rw [e1]
    simp only [yaq]
    rw [yaB _ _ (by omega),e2,ybi]
    simp
   rw [e,Lw (by omega)]
   exact gW _
set_option maxRecDepth 20000
def giS (z:Int) (c:UInt8) (k:Nat):Int:=IntKind.u64.wrap ((yab 64 z ||| yab 64 (IntKind.u64.wrap ((IntKind.u8.wrap ((yab 8 (c.toNat:Int) &&& yab 8 127).toNat:Int))*2 ^ (7*k)))).toNat:Int)
def giE (z:Int):Int:=IntKind.i64.wrap ((yab 64 (IntKind.i64.wrap (z.fdiv (2 ^ 1))) ^^^ yab 64 (IntKind.i64.wrap (-(IntKind.i64.wrap (IntKind.u64.wrap ((yab 64 z &&& yab 64 1).toNat:Int)))))).toNat:Int)
def giR:Bs→Nat→Int→Int × Nat × Int
 | [],_,_=>(0,0,10)
 | c::r,k,z=>if (k=9∧1<c.toNat)∨(0<k∧c.toNat=0) then (0,0,11) else if c.toNat<128 then (giE (giS z c k),k+1,0) else giR r (k+1) (giS z c k)
def giO (l:Bs):Int × Nat × Int:=giR l 0 0
structure GiI (l:Bs) (g:Nat × Int):Prop where
 le:g.1≤l.length
 k9:g.1≤9
 eq:giR (l.drop g.1) g.1 g.2=giO l
theorem afZ (l:Bs):Ok 73 [byV l] (Is (.tup [.i (giO l).1,.i (giO l).2.1,.i (giO l).2.2])):=by
 refine dX lw73 (by simp) ?_
 unfold c73
 simp -implicitDefEqProofs only [rX,↓rY,aA,↓reduceIte,reduceCtorEq,cxN,aV]
 intro hl
 unfold maxLen at hl
 refine fC (fun g:Nat × Int=>(⟨[(11,.i g.1),(10,.i l.length),(9,byV l),(6,.i 0),(5,.v (.int .u64 g.2))],[],0⟩:St)) (GiI l) (fun g=>l.length-g.1) (0,0) ⟨yaz _,by omega,rfl⟩ ?_ ?_
 ·simp -implicitDefEqProofs only [rX,↓reduceIte,Nat.reduceEqDiff,leE,leH,aJ,wfE,wfB,wfV]
  rfl
 rintro ⟨k,z⟩ ⟨h1,h2,h3⟩ N hN
 simp only at h1 h2 h3
 unfold c73l0
 simp -implicitDefEqProofs only [rX,↓rY,aA,↓reduceIte,Nat.reduceEqDiff,reduceCtorEq,a8,bF,wfV,wfL,yaC,yaj,Jl]
 cases hd:decide ((k:Int)<(l.length:Int)) with
 | false =>
  have hd':=of_decide_eq_false hd
  have:k=l.length:=by omega
  subst this
  rw [List.drop_length] at h3
  have h4:giO l=(0,0,10):=h3.symm
  simp -implicitDefEqProofs only [↓rY,h4,beq_self_eq_true]
  rfl
 | true =>
  have hd':=of_decide_eq_true hd
  have hkl:k<l.length:=by omega
  have hb:l[k].toNat<256:=UInt8.toNat_lt _
  rw [ybp hkl] at h3
  simp -implicitDefEqProofs only [↓rY]
  refine ⟨⟨by omega,by omega⟩,hkl,?_⟩
  generalize l[k]=c at *
  have hbad:((k=9∧1<c.toNat)∨(0<k∧c.toNat=0))→V.tup [V.v (Value.int IntKind.i64 0),V.v (Value.int IntKind.i64 0),V.v (Value.int IntKind.i64 11)]=V.tup [V.i (giO l).1,V.i (giO l).2.1,V.i (giO l).2.2]:=by
   intro h
   rw [←h3,giR,if_pos h]
   rfl
  have hgood:¬((k=9∧1<c.toNat)∨(0<k∧c.toNat=0))→(c.toNat<128→giO l=(giE (giS z c k),k+1,0))∧(¬c.toNat<128→k+1≤9∧giR (l.drop (k+1)) (k+1) (giS z c k)=giO l):=by
   intro h
   rw [giR,if_neg h] at h3
   refine ⟨fun h4=>by rw [if_pos h4] at h3;exact h3.symm,fun h4=>?_⟩
   rw [if_neg h4] at h3
   refine ⟨?_,h3⟩
   by_cases h9:k=9
   ·exact absurd (.inl ⟨h9,by omega⟩) h
   ·omega
  have e9:((k:Int)==9)=decide (k=9):=by rw [yaW];simp;omega
  have e1:decide ((1:Int)<(c.toNat:Int))=decide (1<c.toNat):=by rw [yaW];simp;omega
  have e0:decide ((0:Int)<(k:Int))=decide (0<k):=by rw [yaW];simp
  have ez:((c.toNat:Int)==0)=decide (c.toNat=0):=by rw [yaW];simp
  have e8:decide ((c.toNat:Int)<128)=decide (c.toNat<128):=by rw [yaW];simp;omega
  have eu:((k:Int)+1==0)=false:=by rw [beq_eq_false_iff_ne];omega
  have eA:∀ u:Int,IntKind.u8.wrap u=IntKind.u8.wrap u∧0≤IntKind.u8.wrap u∧IntKind.u8.wrap u<256:=fun u=>⟨rfl,by
   simp only [IntKind.wrap]
   exact ⟨Int.emod_nonneg _ (by decide),Int.emod_lt_of_pos _ (by decide)⟩⟩
  rw [e9,e1,e0,ez]
  by_cases hA:k=9∧1<c.toNat
  ·rw [decide_eq_true hA.1,decide_eq_true hA.2]
   simp only [wd]
   exact hbad (.inl hA)
  by_cases hB:0<k∧c.toNat=0
  ·have h1c:decide (1<c.toNat)=false:=decide_eq_false (by omega)
   rw [h1c,decide_eq_true hB.1,decide_eq_true hB.2]
   simp only [wd,we]
   refine ⟨fun _=>hbad (.inr hB),fun _=>hbad (.inr hB)⟩
  obtain ⟨hg1,hg2⟩:=hgood (fun h=>h.elim hA hB)
  have hd1:decide (k=9)=true→decide (1<c.toNat)=false:=fun h=>decide_eq_false fun h2=>hA ⟨of_decide_eq_true h,h2⟩
  have hd2:decide (0<k)=true→decide (c.toNat=0)=false:=fun h=>decide_eq_false fun h2=>hB ⟨of_decide_eq_true h,h2⟩
  rw [e8,eu]
  have hk7:IntKind.u64.wrap (IntKind.u8.wrap ((yab 8 (c.toNat:Int) &&& yab 8 127).toNat:Int)*2 ^ (min (7*(k:Int)).toNat 64))=IntKind.u64.wrap (IntKind.u8.wrap ((yab 8 (c.toNat:Int) &&& yab 8 127).toNat:Int)*2 ^ (7*k)):=by
   have e:min (7*(k:Int)).toNat 64=7*k:=by omega
   rw [e]
  have hgs:giS z c k=IntKind.u64.wrap ((yab 64 z ||| yab 64 (IntKind.u64.wrap (IntKind.u8.wrap ((yab 8 (c.toNat:Int) &&& yab 8 127).toNat:Int)*2 ^ (min (7*(k:Int)).toNat 64)))).toNat:Int):=by rw [hk7];rfl
  have b8:=(eA ((yab 8 (c.toNat:Int) &&& yab 8 127).toNat:Int)).2
  have two:∀ {A B C:Prop},(decide (0<k)=true→decide (c.toNat=0)=false)→A→B→br (decide (0<k)) (br (decide (c.toNat=0)) C A) B:=by
   intro A B C h hA hB
   refine ⟨fun c1=>?_,fun _=>hB⟩
   rw [h c1]
   exact ⟨fun h=>Bool.noConfusion h,fun _=>hA⟩
  have one:∀ {A B C:Prop},(decide (k=9)=true→decide (1<c.toNat)=false)→A→B→br (decide (k=9)) (br (decide (1<c.toNat)) C A) B:=by
   intro A B C h hA hB
   refine ⟨fun c1=>?_,fun _=>hB⟩
   rw [h c1]
   exact ⟨fun h=>Bool.noConfusion h,fun _=>hA⟩
  refine one hd1 (two hd2 ?_ ?_) (two hd2 ?_ ?_)
  all_goals
   simp only [we]
   refine ⟨⟨b8.1,Int.le_trans (Int.le_of_lt b8.2) (by decide:(256:Int)≤Fx.hi .u64)⟩,⟨by simp only [lo];omega,by simp only [Fx.hi];omega⟩,(by omega:(0:Int)≤7*(k:Int)),rfl,fun h8=>⟨⟨by simp only [lo];omega,by simp only [Fx.hi];omega⟩,?_⟩,fun h8=>⟨⟨by simp only [lo];omega,by simp only [Fx.hi];omega⟩,?_⟩⟩
   ·rw [hg1 (of_decide_eq_true h8),hgs]
    exact ⟨(by decide:(0:Int)≤1),rfl,trivial,rfl⟩
   ·obtain ⟨q1,q2⟩:=hg2 (of_decide_eq_false h8)
    refine hN _ (k+1,giS z c k) ⟨by simp only;omega,q1,q2⟩ (by simp only;omega) ?_
    rw [hgs]
    simp -implicitDefEqProofs only [rX,↓reduceIte,Nat.reduceEqDiff,leE,leH,aJ,wfE,wfB,wfV]
    exact ⟨by omega,rfl⟩
def lnO (l:Bs):Int × Int × Int:=if (giO l).2.2≠0 then (0,0,(giO l).2.2) else if (giO l).1<0 then (0,0,11) else if (l.length:Int)-(giO l).2.1<(giO l).1 then (0,0,10) else ((giO l).1,((giO l).2.1:Int),0)
theorem Un:∀ {l:Bs} {k:Nat} {z:Int},(giR l k z).2.1≤k+l.length
 | [],k,z=>by simp [giR]
 | c::r,k,z=>by
  unfold giR
  split
  ·simp
  ·split
   ·simp
   ·have:=Un (l:=r) (k:=k+1) (z:=giS z c k)
    simp only [yaw];omega
theorem Uo {l:Bs}:(giO l).2.1≤l.length:=by
 have:=Un (l:=l) (k:=0) (z:=0)
 unfold giO;omega
theorem agC (l:Bs):Ok 60 [byV l,.i 1] (Is (.tup [.i (lnO l).1,.i (lnO l).2.1,.i (lnO l).2.2])):=by
 refine dX lw60 (by simp) ?_
 unfold c60
 simp -implicitDefEqProofs only [rX,aA,↓reduceIte,reduceCtorEq,cxN,aV]
 refine bE (afZ l) ⟨⟨trivial,trivial⟩,⟨rfl,rfl⟩,trivial⟩ rfl trivial ?_
 have hb:=Uo (l:=l)
 have hl:lnO l=if (giO l).2.2≠0 then (0,0,(giO l).2.2) else if (giO l).1<0 then (0,0,11) else if (l.length:Int)-(giO l).2.1<(giO l).1 then (0,0,10) else ((giO l).1,((giO l).2.1:Int),0):=rfl
 generalize giO l=g at *
 obtain ⟨g1,g2,g3⟩:=g
 simp only at hb hl
 simp -implicitDefEqProofs only [rX,↓rY,aA,↓reduceIte,Nat.reduceEqDiff,reduceCtorEq,a8,bF,wfV,wfL]
 refine ⟨fun h=>?_,fun h=>⟨fun h2=>?_,fun h2 hm=>?_⟩⟩
 ·rw [hl,if_pos (by simpa using h)]
 ·rw [hl,if_neg (by simpa using h),if_pos (of_decide_eq_true h2)]
 ·unfold maxLen at hm
  rw [hl,if_neg (by simpa using h),if_neg (of_decide_eq_false h2),Int.tdiv_one]
  refine ⟨⟨by simp only [lo];omega,by simp only [Fx.hi];omega⟩,by decide,⟨by simp only [lo];omega,by simp only [Fx.hi];omega⟩,fun h3=>?_,fun h3=>?_⟩
  ·rw [if_pos (of_decide_eq_true h3)]
  ·rw [if_neg (of_decide_eq_false h3)]
def gbO (l:Bs):Bs × Int × Int:=if (lnO l).2.2≠0 then ([],0,(lnO l).2.2) else ((l.drop (lnO l).2.1.toNat).take (lnO l).1.toNat,(lnO l).2.1+(lnO l).1,0)
theorem Uh {l:Bs} (h:(lnO l).2.2=0):(0≤(lnO l).1∧0≤(lnO l).2.1)∧(lnO l).2.1+(lnO l).1≤l.length:=by
 have hb:=Uo (l:=l)
 unfold lnO at h ⊢
 split at h
 ·rename_i h1
  exact absurd h h1
 ·rename_i h1
  rw [if_neg h1]
  split at h
  ·exact absurd h (by decide)
  ·rename_i h2
   rw [if_neg h2]
   split at h
   ·exact absurd h (by decide)
   ·rename_i h3
    rw [if_neg h3]
    simp only
    omega
theorem agJ (l:Bs) (hlen:l.length≤1000000):Ok 48 [byV l] (Is (.tup [sv (gbO l).1,.i (gbO l).2.1,.i (gbO l).2.2])):=by
 refine dX lw48 (by simp) ?_
 unfold c48
 simp -implicitDefEqProofs only [rX,aA,↓reduceIte,reduceCtorEq,cxN,eF,aV]
 refine bE (agC l) ⟨⟨trivial,trivial,trivial⟩,⟨rfl,rfl⟩,rfl,trivial⟩ rfl trivial ?_
 have hb:=Uh (l:=l)
 have hl:gbO l=if (lnO l).2.2≠0 then ([],0,(lnO l).2.2) else ((l.drop (lnO l).2.1.toNat).take (lnO l).1.toNat,(lnO l).2.1+(lnO l).1,0):=rfl
 generalize lnO l=g at *
 obtain ⟨g1,g2,g3⟩:=g
 simp only at hb hl
 simp -implicitDefEqProofs only [rX,↓rY,aA,↓reduceIte,Nat.reduceEqDiff,reduceCtorEq,bY,a8,bF,wfV,wfL]
 refine ⟨fun h=>?_,fun h=>?_⟩
 ·rw [hl,if_pos (by simpa using h)]
 ·have h0:g3=0:=by simpa using h
  obtain ⟨⟨b1,b2⟩,b3⟩:=hb h0
  rw [hl,if_neg (by simpa using h)]
  have e1:(g2+g1).toNat-g2.toNat=g1.toNat:=by omega
  rw [e1,←ybe,←yaL,eV]
  refine ⟨⟨by simp only [lo];omega,by simp only [Fx.hi];omega⟩,⟨⟨b2,by omega⟩,by omega,by omega⟩,.inr trivial,⟨by simp only [lo];omega,by simp only [Fx.hi];omega⟩,rfl⟩
@[congr] theorem aiB {fx:List Nat} {k:Nat} {B B':Blk} {s:St} {K:St→Prop} (q:B=B'):Ko fx k B s K=Ko fx k B' s K:=by rw [q]
@[congr] theorem aiA {fx xs:List Nat} {s s':St} {K:St→Prop} (q:s=s'):w5 fx xs s K=w5 fx xs s' K:=by rw [q]
set_option maxRecDepth 20000
def pt:Nat→LCode→LCode
 | 0,.seq a _=>a
 | n+1,.seq _ b=>pt n b
 | _,c=>c
def rt:Nat→LCode→LCode
 | 0,c=>c
 | n+1,.seq _ b=>rt n b
 | _,c=>c
def To:LCode→LCode
 | .block _ c=>c
 | c=>c
abbrev cT:Cx:=cxN Tryd.prog []
theorem o5 {l:Bs} {n:Nat} (h:l.length=n):(us l).length=n∧(us l).take n=us l∧(us l).drop n=[]:=by
 have hl:(us l).length=n:=by rw [fH,h]
 exact ⟨hl,yaf (by omega),yax (by omega)⟩
theorem zU (n:Nat):yac V.v (yaU n (Value.int IntKind.u8 0)).toList=us (yaa n 0):=by
 rw [Array.toList_replicate,List.map_replicate]
 unfold us
 rw [List.map_replicate];rfl
def tI (seg k gen seq:Int) (c:Bs):Bs:=fL 141 [lB [seg,k,gen,seq],c]
theorem abC (seg k gen seq:Int) (c:Bs) (h:In64 [seg,k,gen,seq]) (hc:c.length≤1000000):Ok 47 [.i seg,.i k,.i gen,.i seq,sv c] (Is (.agg (us (tI seg k gen seq c)))):=by
 refine dX lw47 (by simp) ?_
 unfold c47
 simp -implicitDefEqProofs only [rX,↓rY,aA,cells?,↓reduceIte,Nat.reduceEqDiff,Nat.reduceAdd,reduceCtorEq,aG,dI,isD,Nat.reduceLT,cxN,eF,aV]
 rw [zU 16]
 have hZ:(yaa 16 (0:UInt8)).length=16:=by simp
 generalize yaa 16 (0:UInt8)=Z at *
 have hlB:=Of (l:=[seg,k,gen,seq]) h (by simp)
 simp only [yaw,yaJ] at hlB
 refine gA [bI [seg,k,gen,seq]] (.sl 0 0 (lB [seg,k,gen,seq]).length) (.sl 3 0 (lB [seg,k,gen,seq]).length) [.arr 1 ((lB [seg,k,gen,seq]).map by1)] [.arr 1 ((lB [seg,k,gen,seq]).map by1)] (abD [seg,k,gen,seq] h (by simp)) (by simp [aN,aY,aX,cG,wkL,wk,wkB,blk];exact ⟨rfl,rfl,rfl,rfl⟩) (by simp [ren]) (by simp [bB]) trivial ?_
 simp -implicitDefEqProofs only [rX,↓rY,aA,cells?,↓reduceIte,Nat.reduceEqDiff,Nat.reduceAdd,reduceCtorEq,aG,dI,isD,Nat.reduceLT]
 have tk:yah (lB [seg,k,gen,seq]).length ((lB [seg,k,gen,seq]).map by1)=(lB [seg,k,gen,seq]).map by1:=yaf (by simp)
 have hin:(inB 141 [lB [seg,k,gen,seq],c]).length≤1000000000000:=by
  have h1:=rE (t:=lB [seg,k,gen,seq]) (by omega)
  have h2:=rE (t:=c) (by omega)
  unfold inB
  simp
  omega
 rw [tk,eV,qar]
 refine ⟨.inr trivial,?_⟩
 refine bE (abE 141 [lB [seg,k,gen,seq],c] hin) ⟨⟨trivial,yad 2,trivial⟩,rfl,⟨rfl,rfl⟩,trivial⟩ (by simp [ren,cM]) trivial ?_
 obtain ⟨u1,u2,u3⟩:=o5 (b9 (k:=141) (l:=[lB [seg,k,gen,seq],c]))
 obtain ⟨z1,z2,z3⟩:=o5 hZ
 simp -implicitDefEqProofs only [rX,↓rY,cells?,splice,↓reduceIte,Nat.reduceEqDiff,a8,bF,wfV,u1,u2,z1,z3,o6,eD]
 rfl
theorem Br:∀ l:Bs,(l.map by1).flatten=us l
 | []=>by simp [us]
 | c::r=>by rw [yal,ybP,Br r];simp [us,by1]
theorem pV:∀ l:List V,(l.map fun c=>[c]).flatten=l
 | []=>rfl
 | c::r=>by rw [yal,ybP,pV r];rfl
def iL (L:Bs) (a:Nat) (B:Bs):Bs:=L.take a++B++L.drop (a+B.length)
theorem o4 {L B:Bs} {a:Nat}:yah a (us L)++us B++yas (a+(us B).length) (us L)=us (iL L a B):=by
 unfold iL
 rw [fH,tX,Av]
 unfold us
 rw [yap,yap]
theorem Ng {L B:Bs} {a:Nat} (h:a+B.length≤L.length):(iL L a B).length=L.length:=by
 unfold iL;simp;omega
theorem nI {A C X B:Bs} (h:X.length=B.length):iL (A++(X++C)) A.length B=A++(B++C):=by
 unfold iL
 rw [ybS,←ybA,yaN,←h,yaN,yaq]
def sX (seg gen:Int):Bs:=[87,83,69,71]++(wrN 8 gen++(fL 140 [lB [seg,gen]]++yaa 36 0))
theorem y6 {seg gen:Int}:(sX seg gen).length=64:=by
 unfold sX
 simp [cC,b9]
theorem c33_parts:c23=.seq (pt 0 c23) (.seq (pt 1 c23) (.seq (pt 2 c23) (.seq (pt 3 c23) (.seq (pt 4 c23) (rt 5 c23))))):=by rfl
section
variable {N R:St→Prop} {X:Nat→St→Prop} {e:Env} {bb:Nat} {L:Bs} {seg gen:Int}
structure E33 (seg gen:Int) (e:Env):Prop where
 g0:get e 0=.i seg
 g1:get e 1=.i gen
 g4:get e 4=.ptr 0 0 0
theorem Zj (hL:L.length=64) (hE:E33 seg gen e) (hN:∀ e b,E33 seg gen e→N ⟨e,[.var (us (iL L 0 [87,83,69,71]))],b⟩):aw cT (pt 1 c23) N X R ⟨e,[.var (us L)],bb⟩:=by
 obtain ⟨g0,g1,g4⟩:=hE
 conv=>arg 2;whnf
 simp -implicitDefEqProofs only [rX,↓rY,aA,splice,↓reduceIte,bY,yaj,cxN,g4]
 have hs:dO { data:=#[87,83,69,71] }=yac by1 [87,83,69,71]:=Me (t:=[87,83,69,71])
 have hz:yah (64-yaD 0) (yac by1 [87,83,69,71])=yac by1 [87,83,69,71]:=rfl
 rw [hs,hz,Br,o4,fH,hL]
 refine ⟨⟨by decide,by decide,by decide⟩,by decide,hN _ _ ⟨g0,g1,g4⟩⟩
theorem Zi (hL:L.length=64) (hE:E33 seg gen e) (hN:∀ e b,E33 seg gen e→N ⟨e,[.var (us (eO L 4 8 gen))],b⟩):aw cT (pt 2 c23) N X R ⟨e,[.var (us L)],bb⟩:=by
 obtain ⟨g0,g1,g4⟩:=hE
 conv=>arg 2;whnf
 simp -implicitDefEqProofs only [rX,↓rY,kg,aA,↓reduceIte,Nat.reduceEqDiff,bY,cxN,g4,g1]
 rw [fH,hL]
 refine ⟨⟨by decide,by decide,by decide,by decide⟩,?_⟩
 refine eK [0] [.sl 0 4 8,.i gen] (.tup []) (.tup []) [.var (us L)] [.var (us (eO L 4 8 gen))] [.var (us (eO L 4 8 gen))] (Ru L 4 8 gen (by omega)) (by simp) (by simp [blk,bB,cM]) (by simp [aN,aY,aX,cG,wkL,wk,pos]) (by simp) (by simp [aS,bB,cM]) rfl trivial ?_
 simp -implicitDefEqProofs only [rX]
 exact hN _ _ ⟨g0,g1,g4⟩
abbrev hdD (seg gen:Int):Bs:=fL 140 [lB [seg,gen]]
abbrev h33 (L:Bs) (seg gen:Int):List Blk:=[.var (us L),.arr 1 [[.i seg],[.i gen]],.arr 1 [[sv (lB [seg,gen])]],.var (us (hdD seg gen)),.arr 1 ((lB [seg,gen]).map by1)]
theorem Zh (h:In64 [seg,gen]) (hE:E33 seg gen e) (hN:∀ e b,E33 seg gen e→get e 5=.ptr 3 0 0→N ⟨e,h33 L seg gen,b⟩):aw cT (pt 3 c23) N X R ⟨e,[.var (us L)],bb⟩:=by
 obtain ⟨g0,g1,g4⟩:=hE
 have hlB:=Of (l:=[seg,gen]) h (by simp)
 simp only [yaw,yaJ] at hlB
 conv=>arg 2;whnf
 simp -implicitDefEqProofs only [rX,↓rY,cells?,↓reduceIte,Nat.reduceEqDiff,Nat.reduceAdd,aG,dI,isD,Nat.reduceLT,cxN,eF,g0,g1]
 refine gA [bI [seg,gen]] (.sl 0 0 (lB [seg,gen]).length) (.sl 4 0 (lB [seg,gen]).length) [.arr 1 ((lB [seg,gen]).map by1)] [.arr 1 ((lB [seg,gen]).map by1)] (abD [seg,gen] h (by simp)) (by simp [aN,aY,aX,cG,wkL,wk,wkB,blk];exact ⟨rfl,rfl⟩) (by simp [ren]) (by simp [bB]) trivial ?_
 have tk:yah (lB [seg,gen]).length ((lB [seg,gen]).map by1)=(lB [seg,gen]).map by1:=yaf (by simp)
 have hin:(inB 140 [lB [seg,gen]]).length≤1000000000000:=by
  have h1:=rE (t:=lB [seg,gen]) (by omega)
  unfold inB
  simp
  omega
 simp -implicitDefEqProofs only [rX,↓rY,aA,cells?,↓reduceIte,Nat.reduceAdd,aG,dI,isD,Nat.reduceLT]
 rw [tk,eV,qar]
 refine ⟨.inr trivial,?_⟩
 refine bE (abE 140 [lB [seg,gen]] hin) ⟨⟨trivial,yad 1,trivial⟩,rfl,⟨rfl,rfl⟩,trivial⟩ (by simp [ren,cM]) trivial ?_
 obtain ⟨u1,u2,u3⟩:=o5 (b9 (k:=140) (l:=[lB [seg,gen]]))
 simp -implicitDefEqProofs only [rX,↓rY,aA,cells?,splice,↓reduceIte,Nat.reduceEqDiff,Nat.reduceAdd,aG,u1,o6]
 rw [zU 16]
 obtain ⟨z1,z2,z3⟩:=o5 (l:=yaa 16 0) (n:=16) (by simp)
 rw [z3,yar]
 refine ⟨by simp,hN _ _ ⟨g0,g1,g4⟩ ?_⟩
 rfl
theorem Zg (hL:L.length=64) (hE:E33 seg gen e) (g5:get e 5=.ptr 3 0 0) (hN:∀ e b,E33 seg gen e→N ⟨e,h33 (iL L 12 (hdD seg gen)) seg gen,b⟩):aw cT (pt 4 c23) N X R ⟨e,h33 L seg gen,bb⟩:=by
 obtain ⟨g0,g1,g4⟩:=hE
 have hD:(hdD seg gen).length=16:=b9
 conv=>arg 2;whnf
 simp -implicitDefEqProofs only [rX,↓rY,aA,splice,↓reduceIte,Nat.reduceEqDiff,Nat.reduceAdd,bY,↓qbv,yaj,cxN,g4,g5]
 have t1:yah (16-yaD 0) (yas (yaD 0) (us (hdD seg gen)))=us (hdD seg gen):=(o5 hD).2.1
 have t2:yah (64-yaD 12) (yac (fun c=>[c]) (us (hdD seg gen)))=yac (fun c=>[c]) (us (hdD seg gen)):=yaf (by rw [yat,fH,hD];decide)
 rw [t1,t2,pV,o4,fH,fH,hL,hD]
 refine ⟨⟨by decide,by decide,by decide⟩,⟨by decide,by decide,by decide⟩,⟨by decide,Qv⟩,.inr trivial,by decide,hN _ _ ⟨g0,g1,g4⟩⟩
end
theorem abP (seg gen:Int) (h:In64 [seg,gen]):Ok 23 [.i seg,.i gen] (Is (.agg (us (sX seg gen)))):=by
 refine dX lw23 (by simp) ?_
 rw [c33_parts]
 simp -implicitDefEqProofs only [zb]
 conv=>arg 2;whnf
 simp -implicitDefEqProofs only [rX,↓rY,aA,cells?,aG,cxN,aV]
 rw [zU 64]
 have hZ:(yaa 64 (0:UInt8)).length=64:=by simp
 have hd4:yas 4 (yaa 64 (0:UInt8))=yaa 8 0++yaa 52 0:=by decide
 have hw:(hdD seg gen).length=16:=b9
 refine Zj hZ ⟨rfl,rfl,rfl⟩ fun e _ hE=>?_
 have p1:iL (yaa 64 0) 0 [87,83,69,71]=[87,83,69,71]++(yaa 8 0++(yaa 16 0++yaa 36 0)):=by decide
 rw [p1]
 simp -implicitDefEqProofs only [zb]
 refine Zi (by simp) hE fun e _ hE=>?_
 have p2:eO ([87,83,69,71]++(yaa 8 0++(yaa 16 0++yaa 36 0))) 4 8 gen=[87,83,69,71]++(wrN 8 gen++(yaa 16 0++yaa 36 0)):=by
  have:=nI (A:=[87,83,69,71]) (X:=yaa 8 0) (B:=wrN 8 gen) (C:=yaa 16 0++yaa 36 0) (by rw [cC];simp)
  unfold iL at this
  rw [cC] at this
  exact this
 rw [p2]
 simp -implicitDefEqProofs only [zb]
 refine Zh h hE fun e _ hE g5=>?_
 simp -implicitDefEqProofs only [zb]
 refine Zg (by simp [cC]) hE g5 fun e _ hE=>?_
 have p3:iL ([87,83,69,71]++(wrN 8 gen++(yaa 16 0++yaa 36 0))) 12 (hdD seg gen)=sX seg gen:=by
  have:=nI (A:=[87,83,69,71]++wrN 8 gen) (X:=yaa 16 0) (B:=hdD seg gen) (C:=yaa 36 0) (by rw [hw];simp)
  rw [yag,cC,yaq] at this
  rw [show sX seg gen=_ from rfl,←yaq [87,83,69,71] (wrN 8 gen)]
  exact this
 rw [p3]
 obtain ⟨g0,g1,g4⟩:=hE
 obtain ⟨u1,u2,u3⟩:=o5 (y6 (seg:=seg) (gen:=gen))
 conv=>arg 2;whnf
 simp -implicitDefEqProofs only [rX,↓rY,cells?,splice,↓reduceIte,Nat.reduceEqDiff,Nat.reduceAdd,a8,bF,wfV,g4,u1,u2,u3,o6,eD]
set_option maxRecDepth 20000
theorem Vn {a b:Bs}:sb a++sb b=sb (a++b):=by
 apply ByteArray.ext
 rw [ByteArray.data_append]
 simp [sb]
structure bW where
 gen:Int
 seq:Int
 key:Bs
 data:Bs
def bW.enc (s:bW):List V:=[.i s.gen,.i s.seq,sv s.key,sv s.data]
def bW.c (s:bW):Bs:=tB s.key++s.data
structure bW.Ok (s:bW):Prop where
 g:-9223372036854775808≤s.gen∧s.gen≤9223372036854775807
 q:-9223372036854775808≤s.seq∧s.seq≤9223372036854775807
 k:s.key.length≤100000
 d:s.data.length≤100000
theorem bW.cl {s:bW} (h:s.Ok):s.c.length≤300000:=by
 have:=rE (t:=s.key) (by have:=h.k;omega)
 have:=h.k
 have:=h.d
 unfold bW.c
 rw [yag]
 omega
def dJ (seg k:Int) (s:bW):Bs:=tI seg k s.gen s.seq s.c++(wrN 8 s.gen++(wrN 8 s.seq++(wrN 2 s.c.length++(s.c.take 478++yaa (478-s.c.length) 0))))
theorem eH {seg k:Int} {s:bW}:(dJ seg k s).length=512:=by
 have:(tI seg k s.gen s.seq s.c).length=16:=b9
 unfold dJ
 simp [cC,this]
 omega
theorem c40_parts:c37=.seq (pt 0 c37) (.seq (pt 1 c37) (.seq (pt 2 c37) (.seq (pt 3 c37) (.seq (pt 4 c37) (.seq (pt 5 c37) (.seq (pt 6 c37) (.seq (pt 7 c37) (rt 8 c37)))))))):=by rfl
structure E40 (seg k:Int) (e:Env):Prop where
 g0:get e 0=.i seg
 g1:get e 1=.i k
 g5:get e 5=.ptr 0 0 0
 g6:get e 6=.ptr 1 0 0
section
variable {N R:St→Prop} {X:Nat→St→Prop} {e:Env} {bb:Nat} {L:Bs} {seg k:Int} {s:bW}
theorem Yy (hs:s.Ok) (hE:E40 seg k e) (hN:∀ e b,E40 seg k e→get e 7=sv s.c→N ⟨e,[.var s.enc,.var (us L),.dead,.arr 1 ((tB s.key).map by1)],b⟩):aw cT (pt 1 c37) N X R ⟨e,[.var s.enc,.var (us L)],bb⟩:=by
 obtain ⟨g0,g1,g5,g6⟩:=hE
 conv=>arg 2;whnf
 simp -implicitDefEqProofs only [rX,↓rY,rdK,↓reduceIte,Nat.reduceEqDiff,Nat.reduceAdd,cxN,g5,bW.enc]
 have tk:yah (tB s.key).length ((tB s.key).map by1)=(tB s.key).map by1:=yaf (by simp)
 refine gA [sv s.key] (.sl 1 0 (tB s.key).length) (.sl 3 0 (tB s.key).length) [.dead,.arr 1 ((tB s.key).map by1)] [.dead,.arr 1 ((tB s.key).map by1)] (abA s.key (by have:=hs.k;omega)) (by simp [aN,aY,aX,cG,wkL,wk]) (by simp [ren]) (by simp [bB]) trivial ?_
 simp -implicitDefEqProofs only [rX,↓rY,qH,↓reduceIte,Nat.reduceEqDiff,↓qbF,e7]
 rw [tk,eV,qar]
 have hk:=hs.k
 have hd:=hs.d
 have hl:=rE (t:=s.key) (by omega)
 rw [Db,Vn]
 refine ⟨.inr trivial,?_,hN _ _ ⟨g0,g1,g5,g6⟩ rfl⟩
 show (tB s.key).length+s.data.length≤_
 omega
theorem zD (n:Nat) {D:Bs} (h:D.length=n):us D++yas n (yac V.v (yaU n (Value.int IntKind.u8 0)).toList)=us D:=by
 rw [yax (by simp),yar]
abbrev sD (seg k:Int) (s:bW):Bs:=tI seg k s.gen s.seq s.c
abbrev h40 (L:Bs) (seg k:Int) (s:bW):List Blk:=[.var s.enc,.var (us L),.dead,.arr 1 ((tB s.key).map by1),.var (us (sD seg k s))]
theorem Yx (hs:s.Ok) (h1:In64 [seg,k]) (hE:E40 seg k e) (g7:get e 7=sv s.c) (hN:∀ e b,E40 seg k e→get e 7=sv s.c→get e 8=.ptr 4 0 0→N ⟨e,h40 L seg k s,b⟩):aw cT (pt 2 c37) N X R ⟨e,[.var s.enc,.var (us L),.dead,.arr 1 ((tB s.key).map by1)],bb⟩:=by
 obtain ⟨g0,g1,g5,g6⟩:=hE
 have h64:In64 [seg,k,s.gen,s.seq]:=by
  intro x hx
  simp only [ybh,yaR,or_false] at hx
  rcases hx with rfl|rfl|rfl|rfl
  ·exact h1 _ (by simp)
  ·exact h1 _ (by simp)
  ·exact hs.g
  ·exact hs.q
 have hD:(tI seg k s.gen s.seq s.c).length=16:=b9
 have hcl:=bW.cl hs
 conv=>arg 2;whnf
 simp -implicitDefEqProofs only [rX,↓rY,↓reduceIte,Nat.reduceEqDiff,Nat.reduceAdd,cxN,g0,g1,g5,g7,bW.enc]
 refine bE (abC seg k s.gen s.seq s.c h64 (by omega)) ⟨⟨trivial,trivial,trivial,trivial,trivial,trivial⟩,rfl,rfl,rfl,rfl,rfl,trivial⟩ (by simp [ren,cM]) trivial ?_
 obtain ⟨u1,u2,u3⟩:=o5 hD
 simp -implicitDefEqProofs only [rX,↓rY,aA,cells?,splice,↓reduceIte,Nat.reduceEqDiff,aG,u1,o6,zD 16 hD]
 refine ⟨by simp,hN _ _ ⟨g0,g1,g5,g6⟩ ?_ ?_⟩
 ·exact g7
 ·rfl
theorem Yw (hL:L.length=512) (hE:E40 seg k e) (g7:get e 7=sv s.c) (g8:get e 8=.ptr 4 0 0) (hN:∀ e b,E40 seg k e→get e 7=sv s.c→N ⟨e,h40 (iL L 0 (sD seg k s)) seg k s,b⟩):aw cT (pt 3 c37) N X R ⟨e,h40 L seg k s,bb⟩:=by
 obtain ⟨g0,g1,g5,g6⟩:=hE
 have hD:(sD seg k s).length=16:=b9
 conv=>arg 2;whnf
 simp -implicitDefEqProofs only [rX,↓rY,splice,↓reduceIte,Nat.reduceEqDiff,Nat.reduceAdd,bY,↓qbv,yaj,cxN,g6,g8]
 have t1:yah (16-yaD 0) (yas (yaD 0) (us (sD seg k s)))=us (sD seg k s):=(o5 hD).2.1
 have t2:yah (512-yaD 0) (yac (fun c=>[c]) (us (sD seg k s)))=yac (fun c=>[c]) (us (sD seg k s)):=yaf (by rw [yat,fH,hD];decide)
 rw [t1,t2,pV,o4,fH,fH,hL,hD]
 refine ⟨⟨by decide,by decide,by decide⟩,⟨by decide,by decide,by decide⟩,⟨by decide,Qv⟩,.inr trivial,by decide,hN _ _ ⟨g0,g1,g5,g6⟩ g7⟩
theorem Yv (hL:L.length=512) (hE:E40 seg k e) (g7:get e 7=sv s.c) (hN:∀ e b,E40 seg k e→get e 7=sv s.c→N ⟨e,h40 (eO L 16 8 s.gen) seg k s,b⟩):aw cT (pt 4 c37) N X R ⟨e,h40 L seg k s,bb⟩:=by
 obtain ⟨g0,g1,g5,g6⟩:=hE
 conv=>arg 2;whnf
 simp -implicitDefEqProofs only [rX,↓rY,kg,aA,↓reduceIte,Nat.reduceEqDiff,Nat.reduceAdd,bY,cxN,g6,g5,bW.enc]
 rw [fH,hL]
 refine ⟨⟨by decide,by decide,by decide,by decide⟩,?_⟩
 refine eK [1] [.sl 0 16 8,.i s.gen] (.tup []) (.tup []) [.var (us L)] [.var (us (eO L 16 8 s.gen))] (h40 (eO L 16 8 s.gen) seg k s) (Ru L 16 8 s.gen (by omega)) (by simp) (by simp [blk,bB,cM]) (by simp [aN,aY,aX,cG,wkL,wk,pos]) (by simp) (by simp [aS,bB,cM]) rfl trivial ?_
 simp -implicitDefEqProofs only [rX]
 exact hN _ _ ⟨g0,g1,g5,g6⟩ g7
theorem Yu (hL:L.length=512) (hE:E40 seg k e) (g7:get e 7=sv s.c) (hN:∀ e b,E40 seg k e→get e 7=sv s.c→N ⟨e,h40 (eO L 24 8 s.seq) seg k s,b⟩):aw cT (pt 5 c37) N X R ⟨e,h40 L seg k s,bb⟩:=by
 obtain ⟨g0,g1,g5,g6⟩:=hE
 conv=>arg 2;whnf
 simp -implicitDefEqProofs only [rX,↓rY,kg,aA,↓reduceIte,Nat.reduceEqDiff,Nat.reduceAdd,bY,cxN,g6,g5,bW.enc]
 rw [fH,hL]
 refine ⟨⟨by decide,by decide,by decide,by decide⟩,?_⟩
 refine eK [1] [.sl 0 24 8,.i s.seq] (.tup []) (.tup []) [.var (us L)] [.var (us (eO L 24 8 s.seq))] (h40 (eO L 24 8 s.seq) seg k s) (Ru L 24 8 s.seq (by omega)) (by simp) (by simp [blk,bB,cM]) (by simp [aN,aY,aX,cG,wkL,wk,pos]) (by simp) (by simp [aS,bB,cM]) rfl trivial ?_
 simp -implicitDefEqProofs only [rX]
 exact hN _ _ ⟨g0,g1,g5,g6⟩ g7
theorem Ys (hL:L.length=512) (hE:E40 seg k e) (g7:get e 7=sv s.c) (hN:∀ e b,E40 seg k e→get e 7=sv s.c→N ⟨e,h40 (eO L 32 2 s.c.length) seg k s,b⟩):aw cT (pt 6 c37) N X R ⟨e,h40 L seg k s,bb⟩:=by
 obtain ⟨g0,g1,g5,g6⟩:=hE
 conv=>arg 2;whnf
 simp -implicitDefEqProofs only [rX,↓rY,kg,aA,↓reduceIte,Nat.reduceEqDiff,Nat.reduceAdd,bY,cxN,e7,g6,g7]
 rw [fH,hL]
 refine ⟨⟨by decide,by decide,by decide,by decide⟩,?_⟩
 refine eK [1] [.sl 0 32 2,.i s.c.length] (.tup []) (.tup []) [.var (us L)] [.var (us (eO L 32 2 s.c.length))] (h40 (eO L 32 2 s.c.length) seg k s) (Ru L 32 2 s.c.length (by omega)) (by simp) (by simp [blk,bB,cM]) (by simp [aN,aY,aX,cG,wkL,wk,pos]) (by simp) (by simp [aS,bB,cM]) rfl trivial ?_
 simp -implicitDefEqProofs only [rX]
 exact hN _ _ ⟨g0,g1,g5,g6⟩ g7
theorem Yr (hL:L.length=512) (hE:E40 seg k e) (g7:get e 7=sv s.c) (hN:∀ e b,E40 seg k e→N ⟨e,h40 (iL L 34 (s.c.take 478)) seg k s,b⟩):aw cT (pt 7 c37) N X R ⟨e,h40 L seg k s,bb⟩:=by
 obtain ⟨g0,g1,g5,g6⟩:=hE
 conv=>arg 2;whnf
 simp -implicitDefEqProofs only [rX,↓rY,aA,splice,↓reduceIte,Nat.reduceEqDiff,Nat.reduceAdd,bY,yaj,cxN,g6,g7,Me]
 have t1:yah (512-yaD 34) (yac by1 s.c)=yac by1 (s.c.take 478):=by rw [yaL];rfl
 rw [t1,Br,o4,fH,hL]
 exact ⟨⟨by decide,by decide,by decide⟩,by decide,hN _ _ ⟨g0,g1,g5,g6⟩⟩
end
theorem vI {A C X:Bs} {n:Nat} {x:Int} (h:X.length=n):eO (A++(X++C)) A.length n x=A++(wrN n x++C):=by
 have:=nI (A:=A) (X:=X) (C:=C) (B:=wrN n x) (by rw [cC,h])
 unfold iL at this
 rw [cC] at this
 exact this
theorem acX {seg k:Int} {s:bW}:iL (eO (eO (eO (iL (yaa 512 0) 0 (sD seg k s)) 16 8 s.gen) 24 8 s.seq) 32 2 s.c.length) 34 (s.c.take 478)=dJ seg k s:=by
 have hD:(sD seg k s).length=16:=b9
 have e0:(yaa 512 (0:UInt8))=[]++(yaa 16 0++(yaa 8 0++(yaa 8 0++(yaa 2 0++yaa 478 0)))):=by simp
 have e1:iL (yaa 512 0) 0 (sD seg k s)=sD seg k s++(yaa 8 0++(yaa 8 0++(yaa 2 0++yaa 478 0))):=by
  rw [e0]
  exact nI (A:=[]) (by rw [hD];simp)
 have e2:∀ C:Bs,eO (sD seg k s++(yaa 8 0++C)) 16 8 s.gen=sD seg k s++(wrN 8 s.gen++C):=fun C=>by
  have:=vI (A:=sD seg k s) (X:=yaa 8 0) (C:=C) (n:=8) (x:=s.gen) (by simp)
  rwa [hD] at this
 have e3:∀ C:Bs,eO (sD seg k s++(wrN 8 s.gen++(yaa 8 0++C))) 24 8 s.seq=sD seg k s++(wrN 8 s.gen++(wrN 8 s.seq++C)):=fun C=>by
  have:=vI (A:=sD seg k s++wrN 8 s.gen) (X:=yaa 8 0) (C:=C) (n:=8) (x:=s.seq) (by simp)
  rwa [yag,hD,cC,yaq,yaq] at this
 have e4:∀ C:Bs,eO (sD seg k s++(wrN 8 s.gen++(wrN 8 s.seq++(yaa 2 0++C)))) 32 2 s.c.length=sD seg k s++(wrN 8 s.gen++(wrN 8 s.seq++(wrN 2 s.c.length++C))):=fun C=>by
  have:=vI (A:=sD seg k s++(wrN 8 s.gen++wrN 8 s.seq)) (X:=yaa 2 0) (C:=C) (n:=2) (x:=s.c.length) (by simp)
  simp only [yag,hD,cC,yaq] at this
  exact this
 rw [e1,e2,e3,e4]
 have e5:(yaa 478 (0:UInt8))=yaa (s.c.take 478).length 0++yaa (478-s.c.length) 0:=by
  rw [List.replicate_append_replicate,yau]
  congr 1
  omega
 rw [e5]
 have:=nI (A:=sD seg k s++(wrN 8 s.gen++(wrN 8 s.seq++wrN 2 s.c.length))) (X:=yaa (s.c.take 478).length 0) (C:=yaa (478-s.c.length) 0) (B:=s.c.take 478) (by simp)
 simp only [yag,hD,cC,yaq] at this
 exact this
theorem Wd (seg k:Int) (s:bW) (h:In64 [seg,k]) (hs:s.Ok):Ok 37 [.i seg,.i k,.agg s.enc] (Is (.agg (us (dJ seg k s)))):=by
 refine dX lw37 (by simp) ?_
 rw [c40_parts]
 simp -implicitDefEqProofs only [zb]
 conv=>arg 2;whnf
 have hen:s.enc.length=4:=rfl
 simp -implicitDefEqProofs only [rX,↓rY,aA,cells?,↓reduceIte,Nat.reduceEqDiff,Nat.reduceAdd,reduceCtorEq,aG,cxN,aV]
 rw [zU 512]
 have hD:(sD seg k s).length=16:=b9
 have hc:(s.c.take 478).length≤478:=by rw [yau];omega
 have l0:(yaa 512 (0:UInt8)).length=512:=by simp
 have l1:(iL (yaa 512 0) 0 (sD seg k s)).length=512:=by rw [Ng (by rw [hD,l0];omega),l0]
 have lL:∀ {L:Bs} {a n:Nat} {x:Int},a+n≤L.length→(eO L a n x).length=L.length:=fun {L a n x} h=>by unfold eO;simp [cC];omega
 have e40:=acX (seg:=seg) (k:=k) (s:=s)
 generalize yaa 512 (0:UInt8)=Z at *
 refine Yy hs (L:=Z) ⟨rfl,rfl,rfl,rfl⟩ fun e _ hE g7=>?_
 simp -implicitDefEqProofs only [zb]
 refine Yx hs h hE g7 fun e _ hE g7 g8=>?_
 simp -implicitDefEqProofs only [zb]
 refine Yw l0 hE g7 g8 fun e _ hE g7=>?_
 simp -implicitDefEqProofs only [zb]
 refine Yv l1 hE g7 fun e _ hE g7=>?_
 have l2:(eO (iL Z 0 (sD seg k s)) 16 8 s.gen).length=512:=by rw [lL (by omega),l1]
 simp -implicitDefEqProofs only [zb]
 refine Yu l2 hE g7 fun e _ hE g7=>?_
 have l3:(eO (eO (iL Z 0 (sD seg k s)) 16 8 s.gen) 24 8 s.seq).length=512:=by rw [lL (by omega),l2]
 simp -implicitDefEqProofs only [zb]
 refine Ys l3 hE g7 fun e _ hE g7=>?_
 have l4:(eO (eO (eO (iL Z 0 (sD seg k s)) 16 8 s.gen) 24 8 s.seq) 32 2 s.c.length).length=512:=by rw [lL (by omega),l3]
 simp -implicitDefEqProofs only [zb]
 refine Yr l4 hE g7 fun e _ hE=>?_
 rw [e40]
 obtain ⟨g0,g1,g5,g6⟩:=hE
 obtain ⟨u1,u2,u3⟩:=o5 (eH (seg:=seg) (k:=k) (s:=s))
 conv=>arg 2;whnf
 simp -implicitDefEqProofs only [rX,↓rY,cells?,splice,↓reduceIte,Nat.reduceEqDiff,Nat.reduceAdd,a8,bF,wfV,g6,u1,u2,u3,o6,eD]
end Go.Fx.K
namespace Go.Fx.K
open Go Go.Fx Go.Proofs Go.RowKit
set_option maxHeartbeats 4000000
set_option maxRecDepth 1000000
theorem Gs (p q:Addr) (w:World) :
  CallsD Tryd.prog 45 #[.pointer (some p),.pointer (some q)] .returning w fun e u' w'=>e=.returned (.tuple #[])∧u'=.returning∧w'=w:=by
 refine callsD_of_wpS Tryd.func45 rfl fun c₀ cs hu=>?_
 apply wpS_seq
 apply wpS_region
 simp [wpOpsS,go_sem,recoverD,hu,Tryd.ntmps45,Exit.thenS]
 refine wpS_of_wp ?_
 go_wp2
 cases c₀
 simp_all [bodyPostS,results,Tryd.results45]
theorem bT {w:World} {b:Addr} {u:Value} (a:Addr) (v:Value) (h:w.cell? b=some u):(w.setCell a v).cell? b=some (if a=b then v else u):=by
 by_cases e:a=b
 ·subst e
  rw [if_pos rfl]
  exact World.cell?_setCell_same w a v h
 ·rw [if_neg e,World.cell?_setCell_other w a b v e]
  exact h
theorem Ol (w:World):(Instr.typeAssert (Value.iface 90 (Value.agg #[])) 20 90 true).run Tryd.prog w=.ok (.tuple #[.agg #[],.bool true]) w:=by
 rfl
theorem Cb (B C n:Nat) (x1 x2 x3 x4 y:Value) (older:List PanicEntry) (w:World) (hB:n≤B) (hC:n≤C) (hBC:B≠C) (hn:n≤w.heap.size) (h1:w.cell? ⟨B,0,none⟩=some x1) (h2:w.cell? ⟨B,1,none⟩=some x2) (h3:w.cell? ⟨B,2,none⟩=some x3) (h4:w.cell? ⟨B,3,none⟩=some x4) (h5:w.cell? ⟨C,0,none⟩=some y)
  (z1:w.frozen? ⟨B,0,none⟩=false) (z2:w.frozen? ⟨B,1,none⟩=false) (z3:w.frozen? ⟨B,2,none⟩=false) (z4:w.frozen? ⟨B,3,none⟩=false) (z5:w.frozen? ⟨C,0,none⟩=false) :
  CallsD Tryd.prog 45 #[.pointer (some ⟨B,0,none⟩),.pointer (some ⟨C,0,none⟩)] (.panicking ({ v:=.iface 90 (.agg #[]),recovered:=false }::older)) w fun e u' w'=>e=.returned (.tuple #[])∧u'=.panicking ({ v:=.iface 90 (.agg #[]),recovered:=true }::older) ∧
   (w'.cell? ⟨B,0,none⟩=some (.int .i64 0)∧w'.cell? ⟨B,1,none⟩=some (.int .i64 0)∧w'.cell? ⟨B,2,none⟩=some (.string ⟨#[]⟩)∧w'.cell? ⟨B,3,none⟩=some (.string ⟨#[]⟩)∧w'.cell? ⟨C,0,none⟩=some (.bool false))∧Below n w w':=by
 have n1:=World.new_ne w _ h1
 have n2:=World.new_ne w _ h2
 have n3:=World.new_ne w _ h3
 have n4:=World.new_ne w _ h4
 have n5:=World.new_ne w _ h5
 have fA:∀ a:Addr,w.heap.size≠a.block→w.frozen? a=false→(w.alloc (.cells #[] 90)).frozen? a=false:=fun a ha hz=>by rw [World.frozen?_alloc_old w _ a (Ne.symm ha)];exact hz
 have cA:∀ (a:Addr) (u:Value),w.heap.size≠a.block→w.cell? a=some u→(w.alloc (.cells #[] 90)).cell? a=some u:=fun a u ha hz=>by rw [World.cell?_alloc_old w _ a (Ne.symm ha)];exact hz
 have y1:=fA _ n1 z1
 have y2:=fA _ n2 z2
 have y3:=fA _ n3 z3
 have y4:=fA _ n4 z4
 have y5:=fA _ n5 z5
 have k1:=cA _ _ n1 h1
 have k2:=cA _ _ n2 h2
 have k3:=cA _ _ n3 h3
 have k4:=cA _ _ n4 h4
 have k5:=cA _ _ n5 h5
 refine callsD_of_wpS Tryd.func45 rfl fun c₀ cs hu=>?_
 apply wpS_seq
 apply wpS_region
 simp [wpOpsS,go_sem,recoverD,hu,Tryd.ntmps45,Exit.thenS]
 refine wpS_of_wp ?_
 have hta:=Ol
 go_wp2
 simp [bodyPostS,results,Tryd.results45]
 refine ⟨?_,(((((Below.refl n w).alloc hn _).setCell hB _).setCell hB _).setCell hB _).setCell hB _ |>.setCell hC _⟩
 have hCB:=Ne.symm hBC
 refine ⟨?_,?_,?_,?_,?_⟩
 ·rw [bT _ _ (bT _ _ (bT _ _ (bT _ _ (bT _ _ k1))))];simp [hBC,hCB]
 ·rw [bT _ _ (bT _ _ (bT _ _ (bT _ _ (bT _ _ k2))))];simp [hBC,hCB]
 ·rw [bT _ _ (bT _ _ (bT _ _ (bT _ _ (bT _ _ k3))))];simp [hBC,hCB]
 ·rw [bT _ _ (bT _ _ (bT _ _ (bT _ _ (bT _ _ k4))))];simp [hBC,hCB]
 ·rw [bT _ _ (bT _ _ (bT _ _ (bT _ _ (bT _ _ k5))))];simp [hBC,hCB]
end Go.Fx.K
namespace Go.Fx.K
open Go Go.Fx Go.Proofs Go.RowKit
set_option maxHeartbeats 4000000
set_option maxRecDepth 1000000
abbrev usV (t:Bs):List Value:=t.map fun c=>Value.int .u8 c.toNat
section
variable {ρ:Nat→Loc} {X:Nat→Prop} {w w1:World}
theorem y9 (hr:Rep ρ X w []) (h:Below w.heap.size w w1):Fr ρ w ρ w1:=⟨h.os,h.tape,h.output,h.size,fun b hb ho=>⟨h.block b hb,ho⟩⟩
theorem vA (hr:Rep ρ X w []) (h:Below w.heap.size w w1):Rep ρ X w1 [] :=
 ⟨hr.inj,hr.out,fun k b hk=>by simp at hk,hr.disj,fun k hk=>Nat.lt_of_lt_of_le (hr.lt k hk) h.size,hr.xfr (y9 hr h)⟩
theorem Np (hr:Rep ρ X w []):∀ b,¬Own ρ b:=by
 rintro b ⟨k,hk,_⟩
 rw [hr.out k (yaz _)] at hk;cases hk
theorem Kt {ρ':Nat→Loc} (hr:Rep ρ X w []) (h:Fr ρ w ρ' w1):Below w.heap.size w w1 :=
 ⟨h.os,h.tape,h.output,h.size,fun b hb=>(h.keep b hb (Np hr b)).1⟩
theorem lift {f:FuncId} {xs:List V} {r:V} {vals:List Value} (o:Ok f xs (Is r)) (hr:Rep ρ X w []) (hb:Below w.heap.size w w1) (ha:bA ρ X w1 xs vals) :
  Calls Tryd.prog f vals.toArray w1 fun e w2=>∃ val ρ',e=.returned val∧aM ρ' X w2 r val∧Below w1.heap.size w1 w2:=by
 have hr1:=vA hr hb
 refine Calls.mono (o.2 ρ X w1 vals hr1 ha) ?_
 rintro e w2 ⟨val,r',h',ρ',rfl,⟨⟨rfl,rfl⟩,_⟩,hf,hr2,hv,_⟩
 exact ⟨val,ρ',rfl,hv,Kt hr1 hf⟩
theorem tZ:∀ {t:Bs} {a:List Value},bA ρ X w (us t) a→a=usV t
 | [],[],_=>rfl
 | [],_::_,h=>by simp only [us,yaS,bA] at h
 | _::_,[],h=>by simp only [us,yal,bA] at h
 | c::r,v::a,h=>by
  simp only [us,yal,bA] at h
  have h3:v=.int .u8 c.toNat:=h.1
  have h4:a=usV r:=tZ (t:=r) (a:=a) (by unfold us;exact h.2)
  rw [h3,h4];rfl
theorem Ft:∀ {t:Bs},bA ρ X w (us t) (usV t)
 | []=>by simp only [us,yaS,bA]
 | c::r=>by
  have h:=Ft (t:=r)
  unfold us at h
  simp only [us,yal,bA]
  exact ⟨rfl,h⟩
theorem Hu {B:Nat}:∀ {l:Bs} {off:Nat},(∀ j (h:j<l.length),w.cell? ⟨B,off+j,none⟩=some (.int .u8 l[j].toNat))→b6 (Sta ρ X w) w 1 B off (l.map by1)
 | [],_,_=>trivial
 | c::r,off,h=>⟨⟨rfl,⟨_,h 0 (by simp),rfl,rfl⟩,trivial⟩,Hu fun j hj=>by
   have:=h (j+1) (by simpa using hj)
   rw [show off+1+j=off+(j+1) by omega]
   exact this⟩
theorem Mu (hr:Rep ρ X w []) (hB:Below w.heap.size w w1) {B off cap:Nat} {l:Bs} (h:∀ j (h:j<l.length),w1.cell? ⟨B,off+j,none⟩=some (.int .u8 l[j].toNat)) (hb:B<w1.heap.size) (hc:l.length≤cap∧cap≤maxLen):aM ρ X w1 (byV l) (.slice (some ⟨B,off,none⟩) l.length cap) :=
 ⟨_,l.length,cap,rfl,by simp,hc.1,hc.2,.inr ⟨B,off,rfl,⟨hb,Np hr B⟩,Hu h⟩⟩
end
def p6 (b:Bs):Int:=cJ ((b.drop 16).take 8)
def tP (b:Bs):Int:=cJ ((b.drop 24).take 8)
def Bw (b:Bs):Int:=cJ ((b.drop 32).take 2)
def mQ (b:Bs):Bs:=(b.drop 34).take (Bw b).toNat
def tO (b:Bs):bW:=⟨p6 b,tP b,(gbO (mQ b)).1,(mQ b).drop (gbO (mQ b)).2.1.toNat⟩
def Bx (b:Bs):Prop:=(0<p6 b∧p6 b≤1152921504606846976)∧(0<tP b∧tP b≤1152921504606846976)∧Bw b≤478
instance {b:Bs}:Decidable (Bx b):=by unfold Bx;infer_instance
def gQ (seg k:Int) (b:Bs):Option bW :=
 if Bx b then
  if tI seg k (p6 b) (tP b) (mQ b)=b.take 16 then
   if (gbO (mQ b)).2.2=0 then
    if dJ seg k (tO b)=b then some (tO b) else none
   else none
  else none
 else none
def slV (o:Option bW):Value:=match o with
 | some s=>.agg #[.int .i64 s.gen,.int .i64 s.seq,.string (sb s.key),.string (sb s.data)]
 | none=>.agg #[.int .i64 0,.int .i64 0,.string ⟨#[]⟩,.string ⟨#[]⟩]
structure DS (n:Nat) (b:Bs) (x1 x2 x3 x4 y:Value) (W:World):Prop where
 by':∀ j (h:j<b.length),W.cell? ⟨n,j,none⟩=some (.int .u8 b[j].toNat)
 c1:W.cell? ⟨n+1,0,none⟩=some x1
 c2:W.cell? ⟨n+1,1,none⟩=some x2
 c3:W.cell? ⟨n+1,2,none⟩=some x3
 c4:W.cell? ⟨n+1,3,none⟩=some x4
 cy:W.cell? ⟨n+1+1,0,none⟩=some y
 f1:W.frozen? ⟨n+1,0,none⟩=false
 f2:W.frozen? ⟨n+1,1,none⟩=false
 f3:W.frozen? ⟨n+1,2,none⟩=false
 f4:W.frozen? ⟨n+1,3,none⟩=false
 fy:W.frozen? ⟨n+1+1,0,none⟩=false
 sz:n+3≤W.heap.size
section
variable {n:Nat} {b:Bs} {x1 x2 x3 x4 y:Value} {W W':World}
theorem DS.go (h:DS n b x1 x2 x3 x4 y W) (hb:Below W.heap.size W W'):DS n b x1 x2 x3 x4 y W':=by
 obtain ⟨h0,h1,h2,h3,h4,h5,f1,f2,f3,f4,f5,hs⟩:=h
 have lt:∀ {k j},k<n+3→W'.cell? ⟨k,j,none⟩=W.cell? ⟨k,j,none⟩:=fun {k j} hk=>hb.cell (p:=⟨k,j,none⟩) (by show k<_;omega)
 have lf:∀ {k j},k<n+3→W'.frozen? ⟨k,j,none⟩=W.frozen? ⟨k,j,none⟩:=fun {k j} hk=>hb.frozen (p:=⟨k,j,none⟩) (by show k<_;omega)
 exact ⟨fun j hj=>(lt (by omega)).trans (h0 j hj),(lt (by omega)).trans h1,(lt (by omega)).trans h2,(lt (by omega)).trans h3,(lt (by omega)).trans h4,(lt (by omega)).trans h5,(lf (by omega)).trans f1,(lf (by omega)).trans f2,(lf (by omega)).trans f3,(lf (by omega)).trans f4,(lf (by omega)).trans f5,ybz hs hb.size⟩
theorem far {a c:Addr} {v:Value} (h:a.block≠c.block):(W.setCell a v).cell? c=W.cell? c:=World.cell?_setCell_far W a c v h
theorem nar {a c:Addr} {v:Value} (h:a≠c):(W.setCell a v).cell? c=W.cell? c:=World.cell?_setCell_other W a c v h
theorem DS.s1 (h:DS n b x1 x2 x3 x4 y W) (v:Value):DS n b v x2 x3 x4 y (W.setCell ⟨n+1,0,none⟩ v):=by
 obtain ⟨h0,h1,h2,h3,h4,h5,f1,f2,f3,f4,f5,hs⟩:=h
 refine ⟨fun j hj=>(far (by simp)).trans (h0 j hj),World.cell?_setCell_same _ _ _ h1,(nar (by simp)).trans h2,(nar (by simp)).trans h3,(nar (by simp)).trans h4,(far (by simp)).trans h5,?_,?_,?_,?_,?_,by simpa [World.setCell] using hs⟩<;>rw [World.frozen?_setCell]<;>assumption
theorem DS.s2 (h:DS n b x1 x2 x3 x4 y W) (v:Value):DS n b x1 v x3 x4 y (W.setCell ⟨n+1,1,none⟩ v):=by
 obtain ⟨h0,h1,h2,h3,h4,h5,f1,f2,f3,f4,f5,hs⟩:=h
 refine ⟨fun j hj=>(far (by simp)).trans (h0 j hj),(nar (by simp)).trans h1,World.cell?_setCell_same _ _ _ h2,(nar (by simp)).trans h3,(nar (by simp)).trans h4,(far (by simp)).trans h5,?_,?_,?_,?_,?_,by simpa [World.setCell] using hs⟩<;>rw [World.frozen?_setCell]<;>assumption
theorem DS.s3 (h:DS n b x1 x2 x3 x4 y W) (v:Value):DS n b x1 x2 v x4 y (W.setCell ⟨n+1,2,none⟩ v):=by
 obtain ⟨h0,h1,h2,h3,h4,h5,f1,f2,f3,f4,f5,hs⟩:=h
 refine ⟨fun j hj=>(far (by simp)).trans (h0 j hj),(nar (by simp)).trans h1,(nar (by simp)).trans h2,World.cell?_setCell_same _ _ _ h3,(nar (by simp)).trans h4,(far (by simp)).trans h5,?_,?_,?_,?_,?_,by simpa [World.setCell] using hs⟩<;>rw [World.frozen?_setCell]<;>assumption
theorem DS.s4 (h:DS n b x1 x2 x3 x4 y W) (v:Value):DS n b x1 x2 x3 v y (W.setCell ⟨n+1,3,none⟩ v):=by
 obtain ⟨h0,h1,h2,h3,h4,h5,f1,f2,f3,f4,f5,hs⟩:=h
 refine ⟨fun j hj=>(far (by simp)).trans (h0 j hj),(nar (by simp)).trans h1,(nar (by simp)).trans h2,(nar (by simp)).trans h3,World.cell?_setCell_same _ _ _ h4,(far (by simp)).trans h5,?_,?_,?_,?_,?_,by simpa [World.setCell] using hs⟩<;>rw [World.frozen?_setCell]<;>assumption
theorem Qw (j:Nat) (h:j<b.length):(usV b).toArray[j]?=some (.int .u8 b[j].toNat):=by
 rw [List.getElem?_toArray,yaM,yak h];rfl
theorem DS.zero (w:World):DS w.heap.size b (.int .i64 0) (.int .i64 0) (.string ⟨#[]⟩) (.string ⟨#[]⟩) (.bool false) (((w.alloc (.cells (usV b).toArray 64)).alloc (.cells #[.int .i64 0,.int .i64 0,.string ⟨#[]⟩,.string ⟨#[]⟩] 68)).alloc (.cells #[.bool false] 4)):=by
 have s1:∀ (W:World) (o:Obj),(W.alloc o).heap.size=W.heap.size+1:=fun W o=>World.size_alloc W o
 have s2:∀ (W:World) (o o':Obj),((W.alloc o).alloc o').heap.size=W.heap.size+1+1:=fun W o o'=>by rw [s1,s1]
 refine ⟨fun j hj=>?_,?_,?_,?_,?_,?_,?_,?_,?_,?_,?_,?_⟩
 ·rw [World.cell?_alloc_past _ _ _ (by rw [s2];omega),World.cell?_alloc_past _ _ _ (by rw [s1];omega),World.cell?_alloc_at _ _ _ _ rfl]
  exact Qw j hj
 ·rw [World.cell?_alloc_past _ _ _ (by rw [s2];omega),World.cell?_alloc_at _ _ _ _ (s1 _ _).symm];rfl
 ·rw [World.cell?_alloc_past _ _ _ (by rw [s2];omega),World.cell?_alloc_at _ _ _ _ (s1 _ _).symm];rfl
 ·rw [World.cell?_alloc_past _ _ _ (by rw [s2];omega),World.cell?_alloc_at _ _ _ _ (s1 _ _).symm];rfl
 ·rw [World.cell?_alloc_past _ _ _ (by rw [s2];omega),World.cell?_alloc_at _ _ _ _ (s1 _ _).symm];rfl
 ·rw [World.cell?_alloc_at _ _ _ _ (s2 _ _ _).symm];rfl
 ·rw [World.frozen?_alloc_past _ _ _ (by rw [s2];omega),World.frozen?_alloc_at _ _ _ _ (s1 _ _).symm]
 ·rw [World.frozen?_alloc_past _ _ _ (by rw [s2];omega),World.frozen?_alloc_at _ _ _ _ (s1 _ _).symm]
 ·rw [World.frozen?_alloc_past _ _ _ (by rw [s2];omega),World.frozen?_alloc_at _ _ _ _ (s1 _ _).symm]
 ·rw [World.frozen?_alloc_past _ _ _ (by rw [s2];omega),World.frozen?_alloc_at _ _ _ _ (s1 _ _).symm]
 ·rw [World.frozen?_alloc_at _ _ _ _ (s2 _ _ _).symm]
 ·rw [s1,s2];omega
theorem Jq (w:World) (o1 o2 o3:Obj):Below w.heap.size w (((w.alloc o1).alloc o2).alloc o3) :=
 have s1:∀ (W:World) (o:Obj),(W.alloc o).heap.size=W.heap.size+1:=fun W o=>World.size_alloc W o
 (((Below.refl _ w).alloc (yad _) _).alloc (by rw [s1];omega) _).alloc (by rw [s1,s1];omega) _
end
theorem Cf {n:Nat} {w W:World} (h:Below n w W) (k j:Nat) (v:Value) (hk:n≤k):Below n w (W.setCell ⟨k,j,none⟩ v):=h.setCell (by exact hk) v
theorem acM {ρ:Nat→Loc} {X:Nat→Prop} {w W2:World} {n:Nat} {b:Bs} {x1 x2 x3 x4 y:Value} (hr:Rep ρ X w []) (hb:Below w.heap.size w W2) (hd:DS n b x1 x2 x3 x4 y W2) (off len cap:Nat) (h:off+len≤b.length) (hc:len≤cap∧cap≤maxLen) :
  Calls Tryd.prog 22 #[.slice (some ⟨n,off,none⟩) len cap] W2 fun e W3=>e=.returned (.int .i64 (cJ ((b.drop off).take len)))∧Below W2.heap.size W2 W3:=by
 have hl:((b.drop off).take len).length=len:=by rw [yau,yaA];omega
 have hs:∀ j (h:j<((b.drop off).take len).length),W2.cell? ⟨n,off+j,none⟩=some (.int .u8 ((b.drop off).take len)[j].toNat):=fun j hj=>by
  rw [hl] at hj
  rw [hd.by' (off+j) (by omega)]
  simp
 have hv:=Mu (X:=X) hr hb (cap:=cap) hs (by have:=hd.sz;omega) (by rw [hl];exact hc)
 rw [hl] at hv
 refine (lift (abQ _) hr hb (vals:=[_]) ⟨hv,trivial⟩).mono ?_
 rintro e w2 ⟨val,ρ',rfl,h1,h2⟩
 have h3:val=.int .i64 (cJ ((b.drop off).take len)):=h1
 exact ⟨by rw [h3],h2⟩
theorem Jg (W:World):Calls Tryd.prog 46 #[.bool true] W fun e W'=>e=.returned (.tuple #[])∧W'=W:=by
 go_enter Tryd.func46,Tryd.ntmps46
 go_wp2
 simp [bodyPost,results,Tryd.results46]
theorem Em (W:World):Calls Tryd.prog 46 #[.bool false] W fun e W'=>e=.panicked [{ v:=.iface 90 (.agg #[]),recovered:=false }]∧W'=W:=by
 go_enter Tryd.func46,Tryd.ntmps46
 go_wp2
 simp [bodyPost]
theorem aaP {n:Nat} {b:Bs} {x1 x2 x3 x4 y:Value} {W:World} (hd:DS n b x1 x2 x3 x4 y W) (tmps:Array Value) (h6:tmps.getD 6 undef=.pointer (some ⟨n+1,0,none⟩)) (h7:tmps.getD 7 undef=.pointer (some ⟨n+1+1,0,none⟩)) :
  (results Tryd.f25 tmps).run Tryd.prog W=.ok (.tuple #[.agg #[x1,x2,x3,x4],y]) W:=by
 have c1:=hd.c1
 have c2:=hd.c2
 have c3:=hd.c3
 have c4:=hd.c4
 have cy:=hd.cy
 have e:Tryd.f25.results=#[.cell 6 68,.cell 7 4]:=by rfl
 unfold results
 rw [e]
 simp only [ybT,ybU,ybV,h6,h7]
 go_simp
theorem adU {w W:World} {b:Bs} {x1 x2 x3 x4 y:Value} (hd:DS w.heap.size b x1 x2 x3 x4 y W) (hb:Below w.heap.size w W) (tmps:Array Value) (h6:tmps.getD 6 undef=.pointer (some ⟨w.heap.size+1,0,none⟩)) (h7:tmps.getD 7 undef=.pointer (some ⟨w.heap.size+1+1,0,none⟩)) :
  Leaves Tryd.prog Tryd.f25 tmps (fun e w'=>e=.returned (.tuple #[slV none,.bool false])∧Below w.heap.size w w') [{ target:=.fn (.func 45) #[.pointer (some ⟨w.heap.size+1,0,none⟩),.pointer (some ⟨w.heap.size+1+1,0,none⟩)],args:=#[] }] (.panicking [{ v:=.iface 90 (.agg #[]),recovered:=false }]) W:=by
 obtain ⟨h0,h1,h2,h3,h4,h5,f1,f2,f3,f4,f5,hs⟩:=hd
 refine leaves_cons (f:=45) (args:=#[.pointer (some ⟨w.heap.size+1,0,none⟩),.pointer (some ⟨w.heap.size+1+1,0,none⟩)]) (by simp) (by simp [go_sem]) ?_
 refine (Cb (w.heap.size+1) (w.heap.size+1+1) w.heap.size x1 x2 x3 x4 y [] W (by omega) (by omega) (by omega) (by omega) h1 h2 h3 h4 h5 f1 f2 f3 f4 f5).mono ?_
 rintro e u' w' ⟨rfl,rfl,⟨k1,k2,k3,k4,k5⟩,hb'⟩
 refine ⟨_,?_,rfl,hb.trans hb'⟩
 have e:Tryd.f25.results=#[.cell 6 68,.cell 7 4]:=by rfl
 unfold results
 rw [e]
 simp only [ybT,ybU,ybV,h6,h7]
 go_simp
 rfl
theorem Wx {w W:World} {b:Bs} {x1 x2 x3 x4 y:Value} (hd:DS w.heap.size b x1 x2 x3 x4 y W) (hb:Below w.heap.size w W) (tmps:Array Value) (h6:tmps.getD 6 undef=.pointer (some ⟨w.heap.size+1,0,none⟩)) (h7:tmps.getD 7 undef=.pointer (some ⟨w.heap.size+1+1,0,none⟩)) :
  Leaves Tryd.prog Tryd.f25 tmps (fun e w'=>e=.returned (.tuple #[.agg #[x1,x2,x3,x4],y])∧Below w.heap.size w w') [{ target:=.fn (.func 45) #[.pointer (some ⟨w.heap.size+1,0,none⟩),.pointer (some ⟨w.heap.size+1+1,0,none⟩)],args:=#[] }] .returning W:=by
 refine leaves_cons (f:=45) (args:=#[.pointer (some ⟨w.heap.size+1,0,none⟩),.pointer (some ⟨w.heap.size+1+1,0,none⟩)]) (by simp) (by simp [go_sem]) ?_
 refine (Gs _ _ W).mono ?_
 rintro e u' w' ⟨rfl,rfl,rfl⟩
 exact ⟨_,aaP hd tmps h6 h7,rfl,hb⟩
theorem Tx {x:Int} (h:-9223372036854775808≤x∧x≤9223372036854775807):IntKind.i64.wrap x=x:=by
 simp only [IntKind.wrap,IntKind.bits,IntKind.signed]
 simp
 omega
theorem uF {n:Int} {b:UInt8} (h:0≤n) (h2:n<36028797018963968):gst n b=n*256+b.toNat:=by
 obtain ⟨m,rfl⟩:∃ m:Nat,n=m:=⟨n.toNat,by omega⟩
 have hb:b.toNat<256:=b.toNat_lt
 unfold gst
 rw [Tx (x:=(m:Int)*2 ^ 8) (by omega)]
 have e1:(yab 64 ((m:Int)*2 ^ 8))=yaF 64 (m*256):=by
  rw [show ((m:Int)*2 ^ 8)=((m*256:Nat):Int) by omega];rfl
 have e2:yab 64 (b.toNat:Int)=yaF 64 b.toNat:=rfl
 rw [e1,e2,BitVec.toNat_or,ybc,ybc,Nat.mod_eq_of_lt (by omega),Nat.mod_eq_of_lt (by omega)]
 have e3:m*256 ||| b.toNat=m*256+b.toNat:=by
  have:=Nat.shiftLeft_add_eq_or_of_lt (a:=m) (b:=b.toNat) (i:=8) (by omega)
  rw [Nat.shiftLeft_eq] at this
  exact this.symm
 rw [e3,Tx (by omega)]
 omega
theorem Ot {b:Bs} (h:b.length≤2):0≤cJ b:=by
 match b,h with
 | [],_=>exact Int.le_refl _
 | [x],_ =>
  show 0≤gst 0 x
  rw [uF (by omega) (by omega)]
  omega
 | [x,y],_ =>
  show 0≤gst (gst 0 x) y
  have:=x.toNat_lt
  rw [uF (n:=0) (by omega) (by omega),uF (by omega) (by omega)]
  omega
 | _::_::_::_,h=>simp at h
end Go.Fx.K
namespace Go.Fx.K
open Go Go.Fx Go.Proofs Go.RowKit
set_option maxRecDepth 1000000
theorem Pf {a b:UInt8} {K:Bool→Prop}:eqC (.int .u8) (some (u8 a)) (some (u8 b)) K=K (a==b):=by
 have e:eqK (.int .u8 a.toNat) (.int .u8 b.toNat)=(a==b):=by
  show ((a.toNat:Int)==(b.toNat:Int))=(a==b)
  by_cases h:a=b
  ·subst h;simp
  ·have h2:a.toNat≠b.toNat:=fun h3=>h (UInt8.toNat_inj.1 h3)
   have h3:(a==b)=false:=by simpa using h
   rw [h3];simp;omega
 show ((_∧_)∧K (eqK _ _))=_
 rw [e]
 exact propext ⟨fun h=>h.2,fun h=>⟨⟨rfl,rfl⟩,h⟩⟩
theorem xC {l1 l2:Bs} {xs ys:List V} (hx:∀ i (h:i<l1.length),xs[i]?=some (u8 l1[i])) (hy:∀ i (h:i<l2.length),ys[i]?=some (u8 l2[i])):∀ {m a:Nat} {K:Bool→Prop},a+m≤l1.length→a+m≤l2.length →
  eG xs ys ((yae a m).map fun i=>(i,.int .u8)) K=K ((l1.drop a).take m==(l2.drop a).take m)
 | 0,a,K,_,_=>by simp [eG]
 | m+1,a,K,h1,h2=>by
  rw [yba,yal,eG,hx a (by omega),hy a (by omega),Pf,xC hx hy (by omega) (by omega),ybp (show a<l1.length by omega),ybp (show a<l2.length by omega),ybB,ybB]
  rfl
theorem Ua {l:Bs} {i:Nat} (h:i<l.length):(us l)[i]?=some (u8 l[i]):=by
 rw [Uz h];unfold bn;rw [yao,yak h];rfl
theorem acU {N:Nat} {a b:Bs} (ha:a.length=N) (hb:b.length=N) {K:Bool→Prop}:eG (us a) (us b) ((yae 0 N).map fun i=>(i,.int .u8)) K=K (a==b):=by
 rw [xC (fun i h=>Ua h) (fun i h=>Ua h) (by omega) (by omega)]
 simp only [ybo]
 rw [yaf (by omega),yaf (by omega)]
theorem acT {N:Nat} {t:TypeId} (h1:nW Tryd.prog t=true) (h2:bL Tryd.prog 4 t 0=some ((yae 0 N).map fun i=>(i,.int .u8))) {a b:Bs} (ha:a.length=N) (hb:b.length=N) (w:World):Sem.run Tryd.prog (Op.equalIn 10000 t (.agg (usV a).toArray) (.agg (usV b).toArray)) w=.ok (a==b) w:=by
 have e1:bA (fun _=>default) (fun _=>False) w (us a) (usV a).toArray.toList:=Ft
 have e2:bA (fun _=>default) (fun _=>False) w (us b) (usV b).toArray.toList:=Ft
 have hK:=acU ha hb (K:=fun t=>t=(a==b))
 obtain ⟨t,ht,hrun⟩:=w9 (P:=Tryd.prog) e1 e2 (d:=4) (D:=10000) (by omega) (t:=t) (ks:=(yae 0 N).map fun i=>(i,.int .u8)) (K:=fun t=>t=(a==b)) h1 h2 (hK.mpr rfl)
 rw [hrun w,ht]
theorem ahC {a b:Bs} (ha:a.length=16) (hb:b.length=16) (w:World):Sem.run Tryd.prog (Op.equalIn 10000 86 (.agg (usV a).toArray) (.agg (usV b).toArray)) w=.ok (a==b) w :=
 acT (by kernel_rfl) (by kernel_rfl) ha hb w
theorem acV {a b:Bs} (ha:a.length=512) (hb:b.length=512) (w:World):Sem.run Tryd.prog (Op.equalIn 10000 64 (.agg (usV a).toArray) (.agg (usV b).toArray)) w=.ok (a==b) w :=
 acT (by kernel_rfl) (by kernel_rfl) ha hb w
theorem DS.range {n:Nat} {b:Bs} {x1 x2 x3 x4 y:Value} {W:World} (hd:DS n b x1 x2 x3 x4 y W) (m:Nat):W.rangeAt n 0 (usV (b.take m)):=by
 intro j v hj
 rw [yaK]
 unfold usV at hj
 rw [yaM] at hj
 obtain ⟨c,hc,rfl⟩:=Option.map_eq_some_iff.1 hj
 obtain ⟨h,he⟩:=List.getElem?_eq_some_iff.1 hc
 have hl:j<b.length:=by rw [yau] at h;omega
 rw [hd.by' j hl,←he]
 simp
theorem afC {ρ:Nat→Loc} {X:Nat→Prop} {w W2:World} (hr:Rep ρ X w []) (hb:Below w.heap.size w W2) (seg k g q:Int) (c:Bs) (h:In64 [seg,k,g,q]) (hc:c.length≤1000000) :
  Calls Tryd.prog 47 #[.int .i64 seg,.int .i64 k,.int .i64 g,.int .i64 q,.string (sb c)] W2 fun e W3=>e=.returned (.agg (usV (tI seg k g q c)).toArray)∧Below W2.heap.size W2 W3:=by
 refine (lift (abC seg k g q c h hc) hr hb (vals:=[_,_,_,_,_]) ⟨rfl,rfl,rfl,rfl,rfl,trivial⟩).mono ?_
 rintro e w2 ⟨val,ρ',rfl,h1,h2⟩
 obtain ⟨a,rfl,ha⟩:=h1
 have:=tZ ha
 rw [←this]
 exact ⟨rfl,h2⟩
theorem ahD {ρ:Nat→Loc} {X:Nat→Prop} {w W2:World} (hr:Rep ρ X w []) (hb:Below w.heap.size w W2) (seg k:Int) (s:bW) (h:In64 [seg,k]) (hs:s.Ok) :
  Calls Tryd.prog 37 #[.int .i64 seg,.int .i64 k,slV (some s)] W2 fun e W3=>e=.returned (.agg (usV (dJ seg k s)).toArray)∧Below W2.heap.size W2 W3:=by
 refine (lift (Wd seg k s h hs) hr hb (vals:=[_,_,_]) ⟨rfl,rfl,⟨_,rfl,(by unfold bW.enc;exact ⟨rfl,rfl,rfl,rfl,trivial⟩)⟩,trivial⟩).mono ?_
 rintro e w2 ⟨val,ρ',rfl,h1,h2⟩
 obtain ⟨a,rfl,ha⟩:=h1
 have:=tZ ha
 rw [←this]
 exact ⟨rfl,h2⟩
theorem gbC {ρ:Nat→Loc} {X:Nat→Prop} {w W2:World} (hr:Rep ρ X w []) (hb:Below w.heap.size w W2) (l:Bs) (B cap:Nat) (hl:l.length≤1000000) (hB:B<W2.heap.size) (h:∀ j (h:j<l.length),W2.cell? ⟨B,j,none⟩=some (.int .u8 l[j].toNat)) (hc:l.length≤cap∧cap≤maxLen) :
  Calls Tryd.prog 48 #[.slice (some ⟨B,0,none⟩) l.length cap] W2 fun e W3=>e=.returned (.tuple #[.string (sb (gbO l).1),.int .i64 (gbO l).2.1,.int .i64 (gbO l).2.2])∧Below W2.heap.size W2 W3:=by
 have hv:=Mu (X:=X) hr hb (B:=B) (off:=0) (cap:=cap) (l:=l) (fun j hj=>by rw [yaK];exact h j hj) hB hc
 refine (lift (agJ l hl) hr hb (vals:=[_]) ⟨hv,trivial⟩).mono ?_
 rintro e w2 ⟨val,ρ',rfl,h1,h2⟩
 refine ⟨?_,h2⟩
 obtain ⟨a,rfl,ha⟩:=h1
 obtain ⟨l3⟩:=a
 match l3,ha with
 | [v1,v2,v3],⟨e1,e2,e3,_⟩ =>
  have e1':v1=.string (sb (gbO l).1):=e1
  have e2':v2=.int .i64 (gbO l).2.1:=e2
  have e3':v3=.int .i64 (gbO l).2.2:=e3
  rw [e1',e2',e3']
theorem cvS (W:World) (l:Bs) (hl:l.length≤1000000):∃ (cap:Nat) (ob:Obj),(convert 9 53 (.string (sb l))).run Tryd.prog W=.ok (.slice (some ⟨W.heap.size,0,none⟩) l.length cap) (W.drew.alloc ob)∧(l.length≤cap∧cap≤maxLen)∧∀ j (h:j<l.length),(W.drew.alloc ob).cell? ⟨W.heap.size,j,none⟩=some (.int .u8 l[j].toNat):=by
 have hz:(sb l).size=l.length:=by simp [sb,ByteArray.size]
 have h:=run_bytes_of_string (P:=Tryd.prog) W 9 53 5 (sb l) Tryd.underlying9 Tryd.underlying53 Tryd.underlying5
 rw [hz] at h
 refine ⟨_,_,h,⟨grownCap_ge W l.length 0 5,grownCap_le_maxLen W l.length 0 5 (by unfold maxLen;omega)⟩,fun j hj=>?_⟩
 have e:(W.drew.heap.size)=W.heap.size:=rfl
 rw [←e,World.cell?_alloc_mark]
 unfold bytesRow
 rw [Array.getElem?_append_left (by simpa [sb] using hj)]
 simp [sb,hj]
theorem DS.s5 {n:Nat} {b:Bs} {x1 x2 x3 x4 y:Value} {W:World} (h:DS n b x1 x2 x3 x4 y W) (v:Value):DS n b x1 x2 x3 x4 v (W.setCell ⟨n+1+1,0,none⟩ v):=by
 obtain ⟨h0,h1,h2,h3,h4,h5,f1,f2,f3,f4,f5,hs⟩:=h
 refine ⟨fun j hj=>(far (by simp;omega)).trans (h0 j hj),(far (by simp)).trans h1,(far (by simp)).trans h2,(far (by simp)).trans h3,(far (by simp)).trans h4,World.cell?_setCell_same _ _ _ h5,?_,?_,?_,?_,?_,by simpa [World.setCell] using hs⟩<;>rw [World.frozen?_setCell]<;>assumption
theorem acO {l:Bs} (h:(gbO l).2.2=0):0≤(gbO l).2.1∧(gbO l).2.1≤l.length:=by
 unfold gbO at h ⊢
 split at h
 ·rename_i h1
  exact absurd h h1
 ·rename_i h1
  rw [if_neg h1]
  have:=Uh (l:=l) (by simpa using h1)
  simp only
  omega
theorem acN {l:Bs}:(gbO l).1.length≤l.length:=by
 unfold gbO
 split
 ·simp
 ·rw [yau,yaA];omega
theorem Vm {l:Bs} (a:Nat):(sb l).extract a (sb l).size=sb (l.drop a):=by rw [uZ,e7,yby]
theorem Ta {b:Bs} (h:Bx b) (hb:b.length=512):(tO b).Ok:=by
 have hc:(mQ b).length≤512:=by unfold mQ;rw [yau,yaA];omega
 have:=acN (l:=mQ b)
 obtain ⟨⟨h1,h2⟩,⟨h3,h4⟩,h5⟩:=h
 refine ⟨?_,?_,?_,?_⟩
 ·show _≤p6 b∧p6 b≤_;omega
 ·show _≤tP b∧tP b≤_;omega
 ·show (gbO (mQ b)).1.length≤_;omega
 ·show ((mQ b).drop _).length≤_;rw [yaA];omega
end Go.Fx.K
namespace Go.Fx.K
open Go Go.Fx Go.Proofs Go.RowKit
set_option maxHeartbeats 16000000
set_option maxRecDepth 1000000
theorem xN {w W:World} {b:Bs} {x1 x2 x3 x4 y:Value} {seg k:Int} (hd:DS w.heap.size b x1 x2 x3 x4 y W) (hb:Below w.heap.size w W) (h:gQ seg k b=none) (tmps:Array Value) (h6:tmps.getD 6 undef=.pointer (some ⟨w.heap.size+1,0,none⟩)) (h7:tmps.getD 7 undef=.pointer (some ⟨w.heap.size+1+1,0,none⟩)) :
  Leaves Tryd.prog Tryd.f25 tmps (fun e w'=>e=.returned (.tuple #[slV (gQ seg k b),.bool (gQ seg k b).isSome])∧Below w.heap.size w w') [{ target:=.fn (.func 45) #[.pointer (some ⟨w.heap.size+1,0,none⟩),.pointer (some ⟨w.heap.size+1+1,0,none⟩)],args:=#[] }] (.panicking [{ v:=.iface 90 (.agg #[]),recovered:=false }]) W:=by
 rw [h]
 exact adU hd hb tmps h6 h7
theorem slC (B m:Nat) (h:m≤478) (W:World):(Instr.sliceAt 64 (.pointer (some ⟨B,0,none⟩)) (some (.int .i64 34)) (some (.int .i64 (34+(m:Int)))) none).run Tryd.prog W=.ok (.slice (some ⟨B,34,none⟩) m 478) W:=by
 have hA:Tryd.prog.arrayLen 64=512:=by kernel_rfl
 rw [run_sliceAt_array_lh W 64 ⟨B,0,none⟩ Tryd.underlying64 .i64 .i64 34 (34+(m:Int)) (by omega) (by omega) (by rw [hA];omega),hA]
 go_simp
 omega
theorem cvC {n:Nat} {b:Bs} {x1 x2 x3 x4 y:Value} {W:World} (hd:DS n b x1 x2 x3 x4 y W) (m:Nat) (h:34+m≤b.length):(convert 53 9 (.slice (some ⟨n,34,none⟩) m 478)).run Tryd.prog W=.ok (.string (sb ((b.drop 34).take m))) W:=by
 have hl:((b.drop 34).take m).length=m:=by rw [yau,yaA];omega
 have:=run_convert_bytes_back W 53 9 _ ⟨n,34,none⟩ 478 ((b.drop 34).take m) Tryd.underlying53 (by kernel_rfl) Tryd.underlying9 (fun j hj=>by
  rw [hl] at hj
  have:=hd.by' (34+j) (by omega)
  have e:(Addr.add ⟨n,34,none⟩ j)=⟨n,34+j,none⟩:=by simp [Addr.add]
  rw [e,this]
  simp)
 rw [hl] at this
 exact this
def QD (R:Ending→World→Prop) (Q:Exit→Act→World→Prop):Exit→Act→World→Prop
 | .panic c,a,w=>Leaves Tryd.prog Tryd.f25 a.tmps R a.defers (.panicking c) w
 | .normal,a,w=>Q .normal a w
 | _,_,_=>False
theorem Rk (tmps:Array Value) (t:Nat) (v:Value) (h6:t≠6) (h7:t≠7):results Tryd.f25 (tmps.setIfInBounds t v)=results Tryd.f25 tmps:=by
 have e:Tryd.f25.results=#[.cell 6 68,.cell 7 4]:=by rfl
 have g6:(tmps.setIfInBounds t v).getD 6 undef=tmps.getD 6 undef:=by
  rw [ybC,ybC,ycg h6]
 have g7:(tmps.setIfInBounds t v).getD 7 undef=tmps.getD 7 undef:=by
  rw [ybC,ybC,ycg h7]
 unfold results
 rw [e]
 simp only [ybT,ybU,ybV,g6,g7]
theorem Gf {R:Ending→World→Prop} {tmps:Array Value} {t:Nat} {v:Value} (h6:t≠6) (h7:t≠7):∀ {ds:List Deferred} {u:FrameMode} {w:World},Leaves Tryd.prog Tryd.f25 (tmps.setIfInBounds t v) R ds u w→Leaves Tryd.prog Tryd.f25 tmps R ds u w:=by
 intro ds
 induction ds with
 | nil =>
  intro u w h
  cases u with
  | run=>exact h
  | returning =>
   obtain ⟨v',h1,h2⟩:=h
   exact ⟨v',by rw [←Rk tmps t v h6 h7];exact h1,h2⟩
  | panicking c=>exact h
 | cons d ds ih =>
  intro u w h
  obtain ⟨hu,fv,cap,f,args,ht,hi,hc⟩:=h
  refine ⟨hu,fv,cap,f,args,ht,hi,hc.mono ?_⟩
  intro e u' w' he
  cases e with
  | returned _=>exact ih he
  | panicked _=>exact ih he
  | outgrown=>exact he
theorem eC {R:Ending→World→Prop} {Q:Exit→Act→World→Prop} (t:Nat) (v:Value) (h6:t≠6) (h7:t≠7):∀ c a w,QD R Q (.panic c) (a.put (some t) v) w→QD R Q (.panic c) a w :=
 fun c a w h=>Gf (v:=v) h6 h7 h
theorem Ug {R:Ending→World→Prop} {Q:Exit→Act→World→Prop} {c:Code} {a:Act} {w:World} (hQ:∀ c a w,Leaves Tryd.prog Tryd.f25 a.tmps R a.defers (.panicking c) w→Q (.panic c) a w) (h:Code.wp Tryd.prog c (QD R Q) a w):Code.wp Tryd.prog c Q a w :=
 Code.wp_mono (fun e a w he=>by cases e<;>first|exact he|exact hQ _ _ _ he|exact he.elim) h
theorem Pv {w:World} {ρ:Nat→Loc} {X:Nat→Prop} (hr:Rep ρ X w []) (seg k:Int) (b:Bs) (hb:b.length=512) (hsk:In64 [seg,k]) :
  Calls Tryd.prog 25 #[.int .i64 seg,.int .i64 k,.agg (usV b).toArray] w fun e w'=>e=.returned (.tuple #[slV (gQ seg k b),.bool (gQ seg k b).isSome])∧Below w.heap.size w w':=by
 have hmf:∀ (fn:Go.Fn) (first cap:Array Value) (w:World),(Instr.makeFunc fn first cap).run Tryd.prog w=.ok (.func fn first cap) w:=fun _ _ _ _=>rfl
 go_enter_defers Tryd.func25,Tryd.ntmps25
 go_wp2
 have hd:=DS.zero (b:=b) w
 have hbw:=Jq w (.cells (usV b).toArray 64) (.cells #[.int .i64 0,.int .i64 0,.string ⟨#[]⟩,.string ⟨#[]⟩] 68) (.cells #[.bool false] 4)
 generalize (((w.alloc (.cells (usV b).toArray 64)).alloc (.cells #[.int .i64 0,.int .i64 0,.string ⟨#[]⟩,.string ⟨#[]⟩] 68)).alloc (.cells #[.bool false] 4))=W at *
 have hd0:=hd.go ((Below.refl _ W).drew)
 have hbd:=hbw.drew
 refine wp_region_noPanic ?_
 go_region_with (first|(go_at_call 22;refine (acM hr (by first|exact hbd|assumption) (by first|exact hd0|assumption) _ _ _ (by omega) (by decide)).mono ?_;rintro e W1 ⟨rfl,hb1⟩;have hd1:=DS.go (by first|exact hd0|assumption) hb1;have k1:=hd1.c1;have k2:=hd1.c2;have q1:=hd1.f1;have q2:=hd1.f2;have hbw1:=Below.trans (by first|exact hbd|assumption) (hb1.mono (by first|exact hbd.size|exact Below.size (by assumption)))))
 refine NoPanic.normal ?_
 have hd2:=(hd1.s1 (.int .i64 (cJ ((b.drop 16).take 8)))).s2 (.int .i64 (cJ ((b.drop 24).take 8)))
 have hbw2:=Cf (Cf hbw1 (w.heap.size+1) 0 (.int .i64 (cJ ((b.drop 16).take 8))) (by omega)) (w.heap.size+1) 1 (.int .i64 (cJ ((b.drop 24).take 8))) (by omega)
 clear k1 k2 q1 q2
 generalize ((W1.setCell _ _).setCell _ _)=W2 at *
 clear hd hd0 hd1 hbd hbw hbw1 hb1 hmf
 have m1:=hd2.c1
 have m2:=hd2.c2
 show _
 go_wp2_with (first|(go_at_call 22;refine (acM hr hbw2 hd2 _ _ _ (by omega) (by decide)).mono ?_;rintro e W3 ⟨rfl,hb1⟩;have hd3:=DS.go hd2 hb1;have k1:=hd3.c1;have k2:=hd3.c2))
 all_goals (
  have hbw3:=hbw2.trans (hb1.mono hbw2.size)
  have hN0:0≤Bw b:=Ot (by rw [yau];omega))
 rotate_left
 iterate 4
  ·refine (Em _).mono ?_
   rintro e w' ⟨rfl,rfl⟩
   go_wp2
   refine xN hd3 hbw3 (if_neg ?_) _ rfl rfl
   unfold Bx p6 tP
   omega
 by_cases hN:Bw b≤478
 ·rw [decide_eq_true (by exact hN)]
  refine (Jg _).mono ?_
  rintro e w' ⟨rfl,rfl⟩
  have hH:Bx b:=⟨⟨by assumption,by assumption⟩,⟨by assumption,by assumption⟩,hN⟩
  obtain ⟨m,hm⟩:∃ m:Nat,Bw b=m:=⟨(Bw b).toNat,by omega⟩
  have hm4:m≤478:=by omega
  have hsl:=fun W'=>slC w.heap.size m hm4 W'
  have h34:RowKit.wrap64 (34+(m:Int))=34+m:=by unfold RowKit.wrap64;omega
  have hC:mQ b=(b.drop 34).take m:=by unfold mQ;rw [hm];rfl
  unfold Bw at hm
  rw [hm]
  have hcv:=cvC hd3 m (by omega)
  go_wp2
  refine Ug (fun _ _ _ h=>h) ?_
  have hat:∀ W,(Instr.arrayAt 86 (.slice (some ⟨w.heap.size,0,none⟩) 16 512)).run Tryd.prog W=.ok (.pointer (some ⟨w.heap.size,0,none⟩)) W:=fun W=>run_arrayAt W 86 _ 16 _ 16 512 Tryd.underlying86 (by decide)
  have h64:In64 [seg,k,cJ ((b.drop 16).take 8),cJ ((b.drop 24).take 8)]:=by
   intro x hx
   simp only [ybh,yaR,or_false] at hx
   rcases hx with rfl|rfl|rfl|rfl
   ·exact hsk _ (by simp)
   ·exact hsk _ (by simp)
   ·have:=hH.1;unfold p6 at this;omega
   ·have:=hH.2.1;unfold tP at this;omega
  have h16:(b.take 16).length=16:=by rw [yau];omega
  obtain ⟨T16,hT⟩:∃ T,usV (b.take 16)=T:=⟨_,rfl⟩
  obtain ⟨D,hD⟩:∃ D,usV (tI seg k (cJ ((b.drop 16).take 8)) (cJ ((b.drop 24).take 8)) ((b.drop 34).take m))=D:=⟨_,rfl⟩
  have i116:(Tryd.prog.info? 86).map (·.size)=some T16.length:=by rw [←hT,yat,h16];rfl
  have hrg:∀ {x1 x2 x3 x4 y:Value} (W:World),DS w.heap.size b x1 x2 x3 x4 y W→W.rangeAt w.heap.size 0 T16:=fun W h=>hT▸h.range 16
  have heq:∀ W,Sem.run Tryd.prog (Op.equalIn 10000 86 (.agg D.toArray) (.agg T16.toArray)) W=.ok (tI seg k (cJ ((b.drop 16).take 8)) (cJ ((b.drop 24).take 8)) ((b.drop 34).take m)==b.take 16) W:=fun W=>by
   rw [←hD,←hT]
   exact ahC b9 h16 W
  have hsum:∀ W,Below w.heap.size w W→Calls Tryd.prog 47 #[.int .i64 seg,.int .i64 k,.int .i64 (cJ ((b.drop 16).take 8)),.int .i64 (cJ ((b.drop 24).take 8)),.string (sb ((b.drop 34).take m))] W fun e W3=>e=.returned (.agg D.toArray)∧Below W.heap.size W W3:=fun W hW=>by
   rw [←hD]
   exact afC hr hW seg k _ _ _ h64 (by rw [yau,yaA];omega)
  refine wp_region_held_drew (S:=fun W=>W.cell? ⟨w.heap.size+1,0,none⟩=some (.int .i64 (cJ ((b.drop 16).take 8)))∧W.cell? ⟨w.heap.size+1,1,none⟩=some (.int .i64 (cJ ((b.drop 24).take 8)))∧W.rangeAt w.heap.size 0 T16∧DS w.heap.size b (.int .i64 (cJ ((b.drop 16).take 8))) (.int .i64 (cJ ((b.drop 24).take 8))) (.string ⟨#[]⟩) (.string ⟨#[]⟩) (.bool false) W∧Below w.heap.size w W) (by kernel_rfl) ?hS (fun hHeld=>?_)
  case hS =>
   have h:=hd3.go ((Below.refl _ w').drew)
   exact ⟨h.c1,h.c2,hrg _ h,h,hbw3.drew⟩
  refine wpAnyH_take (i:=0) (oi:=⟨some 49,.move (.tmp 0),3, "chunk.go:127",#[],none⟩) (v:=?vv1) rfl (by kernel_rfl) (by kernel_rfl) (by kernel_rfl) (eC 49 _ (by decide) (by decide)) (Or.inl ⟨by rfl,?hy1⟩) hHeld ?rest1
  case hy1=>intro w hSw;obtain ⟨s1,s2,s3,s4,s5⟩:=hSw;go_simp;try with_reducible rfl
  try simp only [Act.put,yam,yai,yan]
  refine wpAnyH_take (i:=1) (oi:=⟨some 50,.move (.tmp 1),3, "chunk.go:127",#[],none⟩) (v:=?vv2) rfl (by kernel_rfl) (by kernel_rfl) (by kernel_rfl) (eC 50 _ (by decide) (by decide)) (Or.inl ⟨by rfl,?hy2⟩) hHeld ?rest2
  case hy2=>intro w hSw;obtain ⟨s1,s2,s3,s4,s5⟩:=hSw;go_simp;try with_reducible rfl
  try simp only [Act.put,yam,yai,yan]
  refine wpAnyH_take (i:=2) (oi:=⟨some 51,.fieldAddr 68 (.tmp 6) 0,0, "chunk.go:127",#[],none⟩) (v:=?vv3) rfl (by kernel_rfl) (by kernel_rfl) (by kernel_rfl) (eC 51 _ (by decide) (by decide)) (Or.inl ⟨by rfl,?hy3⟩) hHeld ?rest3
  case hy3=>intro w hSw;obtain ⟨s1,s2,s3,s4,s5⟩:=hSw;go_simp;try with_reducible rfl
  try simp only [Act.put,yam,yai,yan]
  refine wpAnyH_take (i:=4) (oi:=⟨some 53,.fieldAddr 68 (.tmp 6) 1,0, "chunk.go:127",#[],none⟩) (v:=?vv4) rfl (by kernel_rfl) (by kernel_rfl) (by kernel_rfl) (eC 53 _ (by decide) (by decide)) (Or.inl ⟨by rfl,?hy4⟩) hHeld ?rest4
  case hy4=>intro w hSw;obtain ⟨s1,s2,s3,s4,s5⟩:=hSw;go_simp;try with_reducible rfl
  try simp only [Act.put,yam,yai,yan]
  refine wpAnyH_take (i:=6) (oi:=⟨some 55,.move (.tmp 9),9, "chunk.go:127",#[],none⟩) (v:=?vv5) rfl (by kernel_rfl) (by kernel_rfl) (by kernel_rfl) (eC 55 _ (by decide) (by decide)) (Or.inl ⟨by rfl,?hy5⟩) hHeld ?rest5
  case hy5=>intro w hSw;obtain ⟨s1,s2,s3,s4,s5⟩:=hSw;go_simp;try with_reducible rfl
  try simp only [Act.put,yam,yai,yan]
  refine wpAnyH_take (i:=8) (oi:=⟨some 57,.slice 64 (.tmp 5) none (some (.const (.int .i64 16))) none,53, "chunk.go:127",#[],none⟩) (v:=?vv6) rfl (by kernel_rfl) (by kernel_rfl) (by kernel_rfl) (eC 57 _ (by decide) (by decide)) (Or.inl ⟨by rfl,?hy6⟩) hHeld ?rest6
  case hy6=>intro w hSw;obtain ⟨s1,s2,s3,s4,s5⟩:=hSw;go_simp;try with_reducible rfl
  try simp only [Act.put,yam,yai,yan]
  refine wpAnyH_take (i:=9) (oi:=⟨some 58,.sliceToArrayPointer 86 (.tmp 57),0, "chunk.go:127",#[⟨8,.data⟩],none⟩) (v:=?vv7) rfl (by kernel_rfl) (by kernel_rfl) (by kernel_rfl) (eC 58 _ (by decide) (by decide)) (Or.inl ⟨by rfl,?hy7⟩) hHeld ?rest7
  case hy7=>intro w hSw;obtain ⟨s1,s2,s3,s4,s5⟩:=hSw;go_simp;try with_reducible rfl
  try simp only [Act.put,yam,yai,yan]
  refine wpAnyH_take (i:=3) (oi:=⟨some 52,.load 3 (.tmp 51),3, "chunk.go:127",#[⟨2,.data⟩],none⟩) (v:=?vv8) rfl (by kernel_rfl) (by kernel_rfl) (by kernel_rfl) (eC 52 _ (by decide) (by decide)) (Or.inl ⟨by rfl,?hy8⟩) hHeld ?rest8
  case hy8=>intro w hSw;obtain ⟨s1,s2,s3,s4,s5⟩:=hSw;go_simp;try with_reducible rfl
  try simp only [Act.put,yam,yai,yan]
  refine wpAnyH_take (i:=5) (oi:=⟨some 54,.load 3 (.tmp 53),3, "chunk.go:127",#[⟨4,.data⟩],none⟩) (v:=?vv9) rfl (by kernel_rfl) (by kernel_rfl) (by kernel_rfl) (eC 54 _ (by decide) (by decide)) (Or.inl ⟨by rfl,?hy9⟩) hHeld ?rest9
  case hy9=>intro w hSw;obtain ⟨s1,s2,s3,s4,s5⟩:=hSw;go_simp;try with_reducible rfl
  try simp only [Act.put,yam,yai,yan]
  refine' wpAnyH_take (i:=10) (oi:=⟨some 59,.load 86 (.tmp 58),86, "chunk.go:127",#[⟨9,.data⟩],none⟩) (v:=_) rfl (by kernel_rfl) (by kernel_rfl) (by kernel_rfl) (eC 59 _ (by decide) (by decide)) (yieldsIf_load_mid (by rfl) 86 (.tmp 58) rfl w.heap.size 0 rfl T16 _ (fun W h=>h.2.2.1) Tryd.underlying86 (by rfl) i116) hHeld ?rest10
  try simp only [Act.put,yam,yai,yan]
  refine wpAnyH_ready (rs:=[7]) (by kernel_rfl) (by simp) ?_
  refine AllReadyH.cons (o:=⟨some 56,.call { callee:=.value (.func 47),args:=#[.tmp 49,.tmp 50,.tmp 52,.tmp 54,.tmp 55],argTypes:=#[3,3,3,3,9] },86, "chunk.go:127",#[⟨0,.data⟩,⟨1,.data⟩,⟨3,.data⟩,⟨5,.data⟩,⟨6,.data⟩],none⟩) rfl (fun K hK=>?_) AllReadyH.nil
  go_simp
  refine (hsum _ hHeld.2.2.2.2).mono ?_
  rintro e W5 ⟨rfl,hb5⟩
  refine hK.out _ _ ?_ (fun hHeld5=>?_)
  ·have h:=hHeld.2.2.2.1.go hb5
   exact ⟨h.c1,h.c2,hrg _ h,h,hHeld.2.2.2.2.trans (hb5.mono hHeld.2.2.2.2.size)⟩
  clear hK K
  try simp only [Act.put,yam,yai,yan]
  refine wpAnyH_take (i:=11) (oi:=⟨some 60,.binOp .eql 86 (.tmp 56) (.tmp 59) 86,4, "chunk.go:127",#[⟨7,.data⟩,⟨10,.data⟩],none⟩) (v:=?vv11) rfl (by kernel_rfl) (by kernel_rfl) (by kernel_rfl) (eC 60 _ (by decide) (by decide)) (Or.inl ⟨by rfl,?hy11⟩) hHeld5 ?rest11
  case hy11=>intro w hSw;obtain ⟨s1,s2,s3,s4,s5⟩:=hSw;go_simp;try with_reducible rfl
  try simp only [Act.put,yam,yai,yan]
  refine wpAnyH_ready (rs:=[12]) (by kernel_rfl) (by simp) ?_
  refine AllReadyH.cons (o:=⟨some 61,.call { callee:=.value (.func 46),args:=#[.tmp 60],argTypes:=#[4] },0, "chunk.go:127",#[⟨11,.data⟩,⟨7,.chain⟩],none⟩) rfl (fun K hK=>?_) AllReadyH.nil
  go_simp
  have hd5:=hHeld5.2.2.2.1
  have hbw5:=hHeld5.2.2.2.2
  by_cases hS:tI seg k (cJ ((b.drop 16).take 8)) (cJ ((b.drop 24).take 8)) ((b.drop 34).take m)=b.take 16
  ·rw [beq_iff_eq.2 hS]
   refine (Jg _).mono ?_
   rintro e w6 ⟨rfl,rfl⟩
   refine hK.out _ _ hHeld5 (fun _=>?_)
   clear hK K
   try simp only [Act.put,yam,yai,yan]
   refine wpAnyH_done (by kernel_rfl) ?_ _
   simp only [QD]
   clear heq hsum hat hsl hcv hHeld5
   have hlC:((b.drop 34).take m).length≤1000000:=by rw [yau,yaA];omega
   generalize (b.drop 34).take m=C at *
   obtain ⟨cap,ob,hcv2,hcap,hcell⟩:=cvS w6 C hlC
   have hbw6:Below w.heap.size w (w6.drew.alloc ob):=hbw5.drew.alloc hbw5.size ob
   have hd6:=hd5.go (((Below.refl _ w6).drew).alloc (yad _) ob)
   have hlt:w6.heap.size<(w6.drew.alloc ob).heap.size:=by rw [World.size_alloc];exact Nat.lt_succ_self _
   have hgb:=gbC hr hbw6 C w6.heap.size cap hlC hlt hcell hcap
   go_wp2_with (first|(go_at_call 48;refine hgb.mono ?_;rintro e W7 ⟨rfl,hb7⟩))
   have hd7:=hd6.go hb7
   have hbw7:=hbw6.trans (hb7.mono hbw6.size)
   by_cases hG:(gbO C).2.2=0
   ·rw [beq_iff_eq.2 hG]
    refine (Jg _).mono ?_
    rintro e w8 ⟨rfl,rfl⟩
    obtain ⟨hx0,hx1⟩:=acO hG
    have hx2:(gbO C).2.1≤((sb C).size:Int):=hx1
    obtain ⟨DT,hDT⟩:∃ t,sb (C.drop (gbO C).2.1.toNat)=t:=⟨_,rfl⟩
    obtain ⟨KT,hKT⟩:∃ t,sb (gbO C).1=t:=⟨_,rfl⟩
    have hss:∀ W,(Instr.slice 9 (.string (sb C)) (some (.int .i64 (gbO C).2.1)) none none).run Tryd.prog W=.ok (.string DT) W:=fun W=>by
     rw [run_slice_string_l W 9 (sb C) Tryd.underlying9 .i64 _ hx0 hx2,Vm,hDT]
    rw [hKT]
    generalize sb C=SC at *
    go_wp2_with fail
    have hd8:=hd7.go ((Below.refl _ w8).drew)
    have hbw8:=hbw7.drew
    have n3:=hd7.c3
    have n4:=hd7.c4
    have z3:=hd7.f3
    have z4:=hd7.f4
    refine wp_region_noPanic ?_
    go_region_with fail
    refine NoPanic.normal ?_
    have hd9:=((hd7.s3 (.string KT)).s4 (.string DT)).go ((Below.refl _ _).drew)
    have hbw9:=(Cf (Cf hbw7 (w.heap.size+1) 2 (.string KT) (by omega)) (w.heap.size+1) 3 (.string DT) (by omega)).drew
    generalize ((w8.setCell _ _).setCell _ _).drew=W9 at *
    clear n3 n4 z3 z4 hd8 hbw8 hss hcv2
    go_wp2
    have eS:slV (some (tO b))=.agg #[.int .i64 (cJ ((b.drop 16).take 8)),.int .i64 (cJ ((b.drop 24).take 8)),.string KT,.string DT]:=by
     show Value.agg #[.int .i64 (p6 b),.int .i64 (tP b),.string (sb (gbO (mQ b)).1),.string (sb ((mQ b).drop (gbO (mQ b)).2.1.toNat))]=_
     rw [hC,hKT,hDT]
     rfl
    obtain ⟨TB,hTB⟩:∃ T,usV b=T:=⟨_,rfl⟩
    obtain ⟨E,hE⟩:∃ T,usV (dJ seg k (tO b))=T:=⟨_,rfl⟩
    have i79:(Tryd.prog.info? 64).map (·.size)=some TB.length:=by rw [←hTB,yat,hb];rfl
    have hrb:∀ {x1 x2 x3 x4 y:Value} (W:World),DS w.heap.size b x1 x2 x3 x4 y W→W.rangeAt w.heap.size 0 TB:=fun W h=>by
     have:=h.range b.length
     rw [yby,hTB] at this
     exact this
    have heq9:∀ W,Sem.run Tryd.prog (Op.equalIn 10000 64 (.agg E.toArray) (.agg TB.toArray)) W=.ok (dJ seg k (tO b)==b) W:=fun W=>by
     rw [←hE,←hTB]
     exact acV eH hb W
    have henc:∀ W,Below w.heap.size w W→Calls Tryd.prog 37 #[.int .i64 seg,.int .i64 k,.agg #[.int .i64 (cJ ((b.drop 16).take 8)),.int .i64 (cJ ((b.drop 24).take 8)),.string KT,.string DT]] W fun e W3=>e=.returned (.agg E.toArray)∧Below W.heap.size W W3:=fun W hW=>by
     rw [←hE,←eS]
     exact ahD hr hW seg k (tO b) hsk (Ta hH hb)
    rw [hTB] at *
    refine Ug (fun _ _ _ h=>h) ?_
    refine wp_region_held_drew (S:=fun W=>W.cell? ⟨w.heap.size+1,0,none⟩=some (.int .i64 (cJ ((b.drop 16).take 8)))∧W.cell? ⟨w.heap.size+1,1,none⟩=some (.int .i64 (cJ ((b.drop 24).take 8)))∧W.cell? ⟨w.heap.size+1,2,none⟩=some (.string KT)∧W.cell? ⟨w.heap.size+1,3,none⟩=some (.string DT)∧W.rangeAt w.heap.size 0 TB∧DS w.heap.size b (.int .i64 (cJ ((b.drop 16).take 8))) (.int .i64 (cJ ((b.drop 24).take 8))) (.string KT) (.string DT) (.bool false) W∧Below w.heap.size w W) (by kernel_rfl) ?hS9 (fun hHeld9=>?_)
    case hS9 =>
     have h:=hd9.go ((Below.refl _ W9).drew)
     exact ⟨h.c1,h.c2,h.c3,h.c4,hrb _ h,h,hbw9.drew⟩
    refine wpAnyH_take (i:=0) (oi:=⟨some 78,.move (.tmp 0),3, "chunk.go:131",#[],none⟩) (v:=?vv12) rfl (by kernel_rfl) (by kernel_rfl) (by kernel_rfl) (eC 78 _ (by decide) (by decide)) (Or.inl ⟨by rfl,?hy12⟩) hHeld9 ?rest12
    case hy12=>intro w hSw;obtain ⟨s1,s2,s3,s4,s5,s6,s7⟩:=hSw;go_simp;try with_reducible rfl
    try simp only [Act.put,yam,yai,yan]
    refine wpAnyH_take (i:=1) (oi:=⟨some 79,.move (.tmp 1),3, "chunk.go:131",#[],none⟩) (v:=?vv13) rfl (by kernel_rfl) (by kernel_rfl) (by kernel_rfl) (eC 79 _ (by decide) (by decide)) (Or.inl ⟨by rfl,?hy13⟩) hHeld9 ?rest13
    case hy13=>intro w hSw;obtain ⟨s1,s2,s3,s4,s5,s6,s7⟩:=hSw;go_simp;try with_reducible rfl
    try simp only [Act.put,yam,yai,yan]
    refine wpAnyH_take (i:=2) (oi:=⟨some 80,.load 68 (.tmp 6),68, "chunk.go:131",#[],none⟩) (v:=?vv14) rfl (by kernel_rfl) (by kernel_rfl) (by kernel_rfl) (eC 80 _ (by decide) (by decide)) (Or.inl ⟨by rfl,?hy14⟩) hHeld9 ?rest14
    case hy14=>intro w hSw;obtain ⟨s1,s2,s3,s4,s5,s6,s7⟩:=hSw;go_simp;try with_reducible rfl
    try simp only [Act.put,yam,yai,yan]
    refine' wpAnyH_take (i:=4) (oi:=⟨some 82,.load 64 (.tmp 5),64, "chunk.go:131",#[],none⟩) (v:=_) rfl (by kernel_rfl) (by kernel_rfl) (by kernel_rfl) (eC 82 _ (by decide) (by decide)) (yieldsIf_load_mid (by rfl) 64 (.tmp 5) rfl w.heap.size 0 rfl TB _ (fun W h=>h.2.2.2.2.1) Tryd.underlying64 (by rfl) i79) hHeld9 ?rest15
    try simp only [Act.put,yam,yai,yan]
    refine wpAnyH_ready (rs:=[3]) (by kernel_rfl) (by simp) ?_
    refine AllReadyH.cons (o:=⟨some 81,.call { callee:=.value (.func 37),args:=#[.tmp 78,.tmp 79,.tmp 80],argTypes:=#[3,3,68] },64, "chunk.go:131",#[⟨0,.data⟩,⟨1,.data⟩,⟨2,.data⟩],none⟩) rfl (fun K hK=>?_) AllReadyH.nil
    go_simp
    refine (henc _ hHeld9.2.2.2.2.2.2).mono ?_
    rintro e W10 ⟨rfl,hb10⟩
    refine hK.out _ _ ?_ (fun hHeldA=>?_)
    ·have h:=hHeld9.2.2.2.2.2.1.go hb10
     exact ⟨h.c1,h.c2,h.c3,h.c4,hrb _ h,h,hHeld9.2.2.2.2.2.2.trans (hb10.mono hHeld9.2.2.2.2.2.2.size)⟩
    clear hK K
    try simp only [Act.put,yam,yai,yan]
    refine wpAnyH_take (i:=5) (oi:=⟨some 83,.binOp .eql 64 (.tmp 81) (.tmp 82) 64,4, "chunk.go:131",#[⟨3,.data⟩,⟨4,.data⟩],none⟩) (v:=?vv16) rfl (by kernel_rfl) (by kernel_rfl) (by kernel_rfl) (eC 83 _ (by decide) (by decide)) (Or.inl ⟨by rfl,?hy16⟩) hHeldA ?rest16
    case hy16=>intro w hSw;obtain ⟨s1,s2,s3,s4,s5,s6,s7⟩:=hSw;go_simp;try with_reducible rfl
    try simp only [Act.put,yam,yai,yan]
    refine wpAnyH_ready (rs:=[6]) (by kernel_rfl) (by simp) ?_
    refine AllReadyH.cons (o:=⟨some 84,.call { callee:=.value (.func 46),args:=#[.tmp 83],argTypes:=#[4] },0, "chunk.go:131",#[⟨5,.data⟩,⟨3,.chain⟩],none⟩) rfl (fun K hK=>?_) AllReadyH.nil
    go_simp
    have hdA:=hHeldA.2.2.2.2.2.1
    have hbwA:=hHeldA.2.2.2.2.2.2
    by_cases hF:dJ seg k (tO b)=b
    ·rw [beq_iff_eq.2 hF]
     refine (Jg _).mono ?_
     rintro e wA ⟨rfl,rfl⟩
     refine hK.out _ _ hHeldA (fun _=>?_)
     clear hK K
     try simp only [Act.put,yam,yai,yan]
     refine wpAnyH_done (by kernel_rfl) ?_ _
     simp only [QD]
     clear heq9 henc hHeldA hHeld9
     have a1:=hdA.c1
     have a2:=hdA.c2
     have a3:=hdA.c3
     have a4:=hdA.c4
     have a5:=hdA.cy
     have p1:=hdA.f1
     have p2:=hdA.f2
     have p3:=hdA.f3
     have p4:=hdA.f4
     have p5:=hdA.fy
     go_wp2
     have hdo:gQ seg k b=some (tO b):=by
      unfold gQ
      rw [if_pos hH,if_pos (by rw [hC];exact hS),if_pos (by rw [hC];exact hG),if_pos hF]
     have hdZ:=((((hdA.s1 (.int .i64 (cJ ((b.drop 16).take 8)))).s2 (.int .i64 (cJ ((b.drop 24).take 8)))).s3 (.string KT)).s4 (.string DT)).s5 (.bool true)
     have hbZ:=Cf (Cf (Cf (Cf (Cf hbwA (w.heap.size+1) 0 (.int .i64 (cJ ((b.drop 16).take 8))) (by omega)) (w.heap.size+1) 1 (.int .i64 (cJ ((b.drop 24).take 8))) (by omega)) (w.heap.size+1) 2 (.string KT) (by omega)) (w.heap.size+1) 3 (.string DT) (by omega)) (w.heap.size+1+1) 0 (.bool true) (by omega)
     rw [hdo,eS]
     exact Wx hdZ hbZ _ rfl rfl
    ·rw [beq_eq_false_iff_ne.2 hF]
     refine (Em _).mono ?_
     rintro e wA ⟨rfl,rfl⟩
     refine xN hdA hbwA ?_ _ rfl rfl
     unfold gQ
     rw [if_pos hH,if_pos (by rw [hC];exact hS),if_pos (by rw [hC];exact hG),if_neg hF]
   ·rw [beq_eq_false_iff_ne.2 hG]
    refine (Em _).mono ?_
    rintro e w8 ⟨rfl,rfl⟩
    go_wp2_with fail
    refine xN hd7 hbw7 ?_ _ rfl rfl
    unfold gQ
    rw [if_pos hH,if_pos (by rw [hC];exact hS),if_neg]
    rw [hC]
    exact hG
  ·rw [beq_eq_false_iff_ne.2 hS]
   refine (Em _).mono ?_
   rintro e w6 ⟨rfl,rfl⟩
   refine xN hd5 hbw5 ?_ _ rfl rfl
   unfold gQ
   rw [if_pos hH,if_neg]
   rw [hC]
   exact hS
 ·rw [decide_eq_false (by exact hN)]
  refine (Em _).mono ?_
  rintro e w' ⟨rfl,rfl⟩
  go_wp2
  refine xN hd3 hbw3 (if_neg ?_) _ rfl rfl
  unfold Bx
  omega
end Go.Fx.K
namespace Go.Fx.K
open Go Go.Fx Go.Proofs Go.RowKit
set_option maxRecDepth 1000000
theorem cal {f:FuncId} {fn:Func} (h:Tryd.prog.funcs[f]?=some fn) (h1:(fn.name == "runtime.NumGoroutine")=false) (h2:fn.body.isNone=false):fE Tryd.prog f:=⟨fn,h,h1,h2⟩
def slE (o:Option bW):List V:=match o with
 | some s=>s.enc
 | none=>[.i 0,.i 0,sv [],sv []]
theorem My {ρ:Nat→Loc} {X:Nat→Prop} {w:World} (o:Option bW):aM ρ X w (.agg (slE o)) (slV o):=by
 cases o with
 | none=>exact ⟨_,rfl,by unfold slE;exact ⟨rfl,rfl,rfl,rfl,trivial⟩⟩
 | some s=>exact ⟨_,rfl,by unfold slE bW.enc;exact ⟨rfl,rfl,rfl,rfl,trivial⟩⟩
theorem abN (seg k:Int) (b:Bs) (hb:b.length=512) (h:In64 [seg,k]):Ok 25 [.i seg,.i k,.agg (us b)] (Is (.tup [.agg (slE (gQ seg k b)),.b (gQ seg k b).isSome])):=by
 refine ⟨cal Tryd.func25 (by kernel_rfl) (by kernel_rfl),?_⟩
 intro ρ X w vals hr hv
 match vals,hv with
 | [v1,v2,v3],⟨e1,e2,⟨arr,e0,h2⟩,_⟩ =>
 subst e0
 obtain rfl:v1=.int .i64 seg:=e1
 obtain rfl:v2=.int .i64 k:=e2
 have q1:=tZ h2
 obtain ⟨arr⟩:=arr
 have q2:arr=usV b:=q1
 subst q2
 refine Calls.mono (Pv hr seg k b hb h) ?_
 rintro e w' ⟨rfl,hbw⟩
 exact ⟨_,_,[],ρ,rfl,⟨⟨rfl,rfl⟩,yad _⟩,y9 hr hbw,vA hr hbw,⟨_,rfl,My _,rfl,trivial⟩,fun k hk=>absurd hk (Nat.not_lt_zero _)⟩
set_option maxRecDepth 20000
theorem Tk {x:Int}:(byB x).toNat=(x%256).toNat:=by
 have h:(IntKind.u8.wrap x).toNat<256:=by rw [yD];omega
 unfold byB
 rw [yD] at h ⊢
 rw [UInt8.toNat_ofNat']
 omega
theorem acQ {x:Int}:x.fdiv (2 ^ 8)=x/256:=by
 rw [ybd _ (by decide)];rfl
theorem mX:∀ {n:Nat} {x:Int},0≤x→x<9223372036854775808→x<256 ^ n→cJ (wrN n x)=x
 | 0,x,h0,_,h=>by
  have:x=0:=by simp at h;omega
  subst this;rfl
 | n+1,x,h0,h1,h=>by
  have ih:=mX (n:=n) (x:=x/256) (by omega) (by omega) (by rw [Int.pow_succ] at h;omega)
  have e:cJ (wrN (n+1) x)=gst (cJ (wrN n (x/256))) (byB x):=by
   have:wrN (n+1) x=wrN n (x/256)++[byB x]:=by rw [←acQ];rfl
   rw [this]
   unfold cJ
   rw [ybR];rfl
  rw [e,ih,uF (by omega) (by omega),Tk]
  omega
theorem ahB:∀ n:Fin 64,giE (giS 0 (UInt8.ofNat (2*n.val)) 0)=(n.val:Int)∧(UInt8.ofNat (2*n.val)).toNat<128:=by decide +kernel
theorem ahA:∀ n:Fin 37,giE (giS (giS 0 (UInt8.ofNat ((2*(n.val+64))%128+128)) 0) (UInt8.ofNat ((2*(n.val+64))/128)) 1)=((n.val+64:Nat):Int)∧¬(UInt8.ofNat ((2*(n.val+64))%128+128)).toNat<128∧(UInt8.ofNat ((2*(n.val+64))/128)).toNat<128∧(UInt8.ofNat ((2*(n.val+64))/128)).toNat≠0:=by decide +kernel
theorem Wy {n:Nat} (h:n≤100) {r:Bs}:giO (nB (n:Int)++r)=((n:Int),(nB (n:Int)).length,0):=by
 have hz:zz (n:Int)=2*n:=by unfold zz;rw [if_pos (by omega)];omega
 unfold nB
 rw [hz]
 by_cases h1:n<64
 ·obtain ⟨q1,q2⟩:=ahB ⟨n,h1⟩
  simp only at q1 q2
  rw [Cq (by omega)]
  show giR (_::r) 0 0=_
  rw [giR,if_neg (by omega),if_pos q2,q1];rfl
 ·obtain ⟨m,rfl⟩:∃ m,n=m+64:=⟨n-64,by omega⟩
  obtain ⟨q1,q2,q3,q4⟩:=ahA ⟨m,by omega⟩
  simp only at q1 q2 q3 q4
  rw [Lv (by omega),Cq (by omega)]
  show giR (_::_::r) 0 0=_
  rw [giR,if_neg (by omega),if_neg q2,giR,if_neg (by omega),if_pos q3,q1];rfl
theorem Xf {k d:Bs} (h:k.length≤100):gbO (tB k++d)=(k,((tB k).length:Int),0):=by
 have e:tB k++d=nB (k.length:Int)++(k++d):=by unfold tB;rw [yaq]
 have hg:=Wy h (r:=k++d)
 have hl:lnO (tB k++d)=((k.length:Int),((nB (k.length:Int)).length:Int),0):=by
  rw [e]
  unfold lnO
  rw [hg]
  simp only
  rw [if_neg (by simp),if_neg (by omega),if_neg (by simp only [yag];omega)]
 unfold gbO
 rw [hl]
 simp only
 rw [if_neg (by simp),e,yaj,yaj,yaN,ybS]
 unfold tB
 rw [yag,ybF]
theorem bW.c_le {s:bW} (hk:s.key.length≤100) (hd:s.data.length≤360):s.c.length≤470:=by
 have:=rE (t:=s.key) (by omega)
 unfold bW.c
 rw [yag]
 omega
theorem Jh {seg k:Int} {s:bW} (hg:0<s.gen∧s.gen≤1152921504606846976) (hq:0<s.seq∧s.seq≤1152921504606846976) (hk:s.key.length≤100) (hd:s.data.length≤360):gQ seg k (dJ seg k s)=some s:=by
 have hc:=bW.c_le hk hd
 have hD:(tI seg k s.gen s.seq s.c).length=16:=b9
 have e16:(dJ seg k s).drop 16=wrN 8 s.gen++(wrN 8 s.seq++(wrN 2 s.c.length++(s.c.take 478++yaa (478-s.c.length) 0))):=by
  unfold dJ;rw [ybD hD]
 have t16:(dJ seg k s).take 16=tI seg k s.gen s.seq s.c:=by
  unfold dJ;rw [ybE hD]
 have e24:(dJ seg k s).drop 24=wrN 8 s.seq++(wrN 2 s.c.length++(s.c.take 478++yaa (478-s.c.length) 0)):=by
  rw [show 24=16+8 from rfl,←ybA,e16]
  rw [ybD cC]
 have e32:(dJ seg k s).drop 32=wrN 2 s.c.length++(s.c.take 478++yaa (478-s.c.length) 0):=by
  rw [show 32=24+8 from rfl,←ybA,e24]
  rw [ybD cC]
 have e34:(dJ seg k s).drop 34=s.c++yaa (478-s.c.length) 0:=by
  rw [show 34=32+2 from rfl,←ybA,e32]
  rw [ybD cC,yaf (by omega)]
 have g:p6 (dJ seg k s)=s.gen:=by
  unfold p6
  rw [e16]
  rw [ybE cC]
  exact mX (by omega) (by omega) (by omega)
 have q:tP (dJ seg k s)=s.seq:=by
  unfold tP
  rw [e24]
  rw [ybE cC]
  exact mX (by omega) (by omega) (by omega)
 have n:Bw (dJ seg k s)=s.c.length:=by
  unfold Bw
  rw [e32]
  rw [ybE cC]
  exact mX (by omega) (by omega) (by omega)
 have c:mQ (dJ seg k s)=s.c:=by
  unfold mQ
  rw [n,e34,yaj,ybS]
 have gb:=Xf (k:=s.key) (d:=s.data) hk
 have hS:tO (dJ seg k s)=s:=by
  unfold tO
  rw [g,q,c]
  have:s.c=tB s.key++s.data:=rfl
  rw [this,gb]
  simp only [yaj,yaN]
 have hb:(gbO (mQ (dJ seg k s))).2.2=0:=by
  rw [c]
  show (gbO (tB s.key++s.data)).2.2=0
  rw [gb]
 unfold gQ
 rw [if_pos (by unfold Bx;rw [g,q,n];omega),if_pos (by rw [g,q,c,t16]),if_pos hb,hS,if_pos rfl]
theorem rV:∀ {n:Nat},cJ (yaa n 0)=0
 | 0=>rfl
 | n+1=>by
  rw [ycd]
  have:cJ (yaa n 0++[0])=gst (cJ (yaa n 0)) 0:=by unfold cJ;rw [ybR];rfl
  rw [this,rV];rfl
theorem Pu {seg k:Int} {n:Nat}:gQ seg k (yaa n 0)=none:=by
 have g:p6 (yaa n 0)=0:=by unfold p6;rw [List.drop_replicate,List.take_replicate,rV]
 unfold gQ
 rw [if_neg]
 unfold Bx
 rw [g]
 omega
abbrev By:=BitVec 8
def xD (b:By):V:=.v (.int .u8 b.toNat)
structure Sec where
 l:List By
 h:l.length=64
 deriving DecidableEq
def Sec.enc (s:Sec):List V:=s.l.map xD
def zS:Sec:=⟨yaa 64 0,rfl⟩
structure Cl where
 s:Sec
 bad:Bool
 deriving DecidableEq
def Cl.enc (c:Cl):List V:=c.s.enc++[.b c.bad]
def zC:Cl:=⟨zS,false⟩
structure Dk where
 cells:List Cl
 opn:List (List Sec)
 steps:Nat
 after:Int
 dead:Bool
abbrev Dk.n (D:Dk):Nat:=D.cells.length
def Dk.op (D:Dk) (i:Nat):List Sec:=D.opn.getD i []
def tW (l:List Sec):Blk:=if l=[] then .dead else .arr 64 (l.map Sec.enc)
def bP (p:Nat) (D:Dk) (L:List (Nat × Nat)):List (Value × V × Nat):=L.map fun e=>(.int .i64 e.1,.sl (p+3+e.1) 0 (D.op e.1).length,e.2)
def dkV (p:Nat) (D:Dk):Blk:=.var [.sl (p+1) 0 D.n,.mp (p+2),.i D.steps,.i D.after,.b D.dead]
def dkC (D:Dk):Blk:=.arr 65 (D.cells.map Cl.enc)
def dkT (D:Dk):List Blk:=D.opn.map tW
def dk (p:Nat) (D:Dk) (L:List (Nat × Nat)) (c:Nat):List Blk:=dkV p D::dkC D::.map (bP p D L) c::dkT D
structure MOk (D:Dk) (L:List (Nat × Nat)) (c:Nat):Prop where
 len:D.opn.length=D.n
 nod:(L.map (·.1)).Nodup
 key:∀ i,i∈L.map (·.1)↔i<D.n∧D.op i≠[]
 st:(L.map (·.2)).Nodup
 clk:∀ e∈L,e.2<c
theorem pY {D:Dk}:(dkT D).length=D.opn.length:=by simp [dkT]
theorem Xi {p:Nat} {D:Dk} {L:List (Nat × Nat)} {c:Nat} (h:D.opn.length=D.n):(dk p D L c).length=3+D.n:=by simp [dk,pY,h];omega
theorem bR (s:Sec):s.enc.length=64:=by simp [Sec.enc,s.h]
theorem Gq (c:Cl):c.enc.length=65:=by simp [Cl.enc,bR]
theorem Tc (c:Cl):yah 64 c.enc=c.s.enc:=by
 rw [Cl.enc,yaG (by simp [bR]),yaf (by simp [bR])]
theorem eE (s:Sec):yah 64 s.enc=s.enc:=yaf (by simp [bR])
theorem iW (s:Sec):yas 64 s.enc=[]:=yax (by simp [bR])
theorem Td (c:Cl):yas 65 c.enc=[]:=yax (by simp [Gq])
theorem Xo (c:Cl):c.enc[64]?=some (.b c.bad):=by
 rw [Cl.enc,yay (by simp [bR])]
 simp [bR]
theorem Cz (s:Sec):s.enc.all isD=true:=by
 rw [List.all_eq_true]
 intro x hx
 rw [Sec.enc,yaV] at hx
 obtain ⟨b,_,rfl⟩:=hx
 rfl
theorem ahG (c:Cl):c.enc.all isD=true:=by
 rw [Cl.enc,List.all_append,Cz];rfl
theorem yJ (s:Sec):s.enc.all isC=true:=by
 rw [List.all_eq_true]
 intro x hx
 rw [Sec.enc,yaV] at hx
 obtain ⟨b,_,rfl⟩:=hx
 rfl
theorem ahH (c:Cl):c.enc.all isC=true:=by
 rw [Cl.enc,List.all_append,yJ];rfl
theorem Pg {p q:Nat} {D:Dk} {L:List (Nat × Nat)} {c:Nat} {g:Nat→Option Nat} (hg:∀ i,i∈L.map (·.1)→g (p+3+i)=some (q+3+i)):bB g (.map (bP p D L) c)=.map (bP q D L) c:=by
 simp only [bB,bP,yaO]
 congr 1
 refine ybb fun e he=>?_
 simp only [Function.comp,ren,hg e.1 (ybq he)]
theorem Sz {D:Dk} {g:Nat→Option Nat}:(dkT D).map (bB g)=dkT D:=by
 simp only [dkT,yaO]
 refine ybb fun l _=>?_
 simp only [Function.comp,tW]
 split<;>rfl
theorem eQ {p q:Nat} {D:Dk} {L:List (Nat × Nat)} {c:Nat} {g:Nat→Option Nat} (hM:MOk D L c) (hg:∀ j,j<3+D.n→g (p+j)=some (q+j)):(dk p D L c).map (bB g)=dk q D L c:=by
 have h1:=hg 1 (by omega)
 have h2:=hg 2 (by omega)
 rw [dk,yal,yal,yal,Sz,Pg (q:=q) fun i hi=>by
  have:=((hM.key i).1 hi).1
  have:=hg (3+i) (by omega)
  rw [show p+3+i=p+(3+i) by omega,show q+3+i=q+(3+i) by omega];exact this]
 simp only [dkV,dkC,bB,dN,ren,h1,h2]
 rfl
theorem xH {D:Dk} {M:List Nat}:(dkT D).map (aD M)=dkT D:=by
 simp only [dkT,yaO]
 refine ybb fun l _=>?_
 simp only [Function.comp,tW]
 split<;>rfl
theorem dP {a b c:Blk} {T X:List Blk}:(a::b::c::(T++X))[T.length+3]?=X[0]?:=by
 have:(a::b::c::(T++X))[T.length+3]?=(T++X)[T.length+0]?:=rfl
 rw [this,yay (by omega)];congr 1;omega
theorem fI {a b c B:Blk} {T X:List Blk}:(a::b::c::(T++X)).set (T.length+3) B=a::b::c::(T++X.set 0 B):=by
 have:(a::b::c::(T++X)).set (T.length+3) B=a::b::c::((T++X).set (T.length+0) B):=rfl
 rw [this,yaB _ _ (by omega)];congr 5;omega
theorem mZ {a b c:Blk} {T X:List Blk}:(a::b::c::(T++X))[T.length+4]?=X[1]?:=by
 have:(a::b::c::(T++X))[T.length+4]?=(T++X)[T.length+1]?:=rfl
 rw [this,yay (by omega)];congr 1;omega
theorem oG {a b c B:Blk} {T X:List Blk}:(a::b::c::(T++X)).set (T.length+4) B=a::b::c::(T++X.set 1 B):=by
 have:(a::b::c::(T++X)).set (T.length+4) B=a::b::c::((T++X).set (T.length+1) B):=rfl
 rw [this,yaB _ _ (by omega)];congr 5;omega
theorem rW {a b c:Blk} {T X:List Blk}:(a::b::c::(T++X))[T.length+5]?=X[2]?:=by
 have:(a::b::c::(T++X))[T.length+5]?=(T++X)[T.length+2]?:=rfl
 rw [this,yay (by omega)];congr 1;omega
theorem Ba {a b c B:Blk} {T X:List Blk}:(a::b::c::(T++X)).set (T.length+5) B=a::b::c::(T++X.set 2 B):=by
 have:(a::b::c::(T++X)).set (T.length+5) B=a::b::c::((T++X).set (T.length+2) B):=rfl
 rw [this,yaB _ _ (by omega)];congr 5;omega
theorem w4 {a b c:Blk} {T X:List Blk}:(a::b::c::(T++X))[T.length+6]?=X[3]?:=by
 have:(a::b::c::(T++X))[T.length+6]?=(T++X)[T.length+3]?:=rfl
 rw [this,yay (by omega)];congr 1;omega
theorem Fk {a b c B:Blk} {T X:List Blk}:(a::b::c::(T++X)).set (T.length+6) B=a::b::c::(T++X.set 3 B):=by
 have:(a::b::c::(T++X)).set (T.length+6) B=a::b::c::((T++X).set (T.length+3) B):=rfl
 rw [this,yaB _ _ (by omega)];congr 5;omega
theorem Ov {a b c:Blk} {T X:List Blk}:(a::b::c::(T++X))[T.length+7]?=X[4]?:=by
 have:(a::b::c::(T++X))[T.length+7]?=(T++X)[T.length+4]?:=rfl
 rw [this,yay (by omega)];congr 1;omega
theorem Ml {a b c B:Blk} {T X:List Blk}:(a::b::c::(T++X)).set (T.length+7) B=a::b::c::(T++X.set 4 B):=by
 have:(a::b::c::(T++X)).set (T.length+7) B=a::b::c::((T++X).set (T.length+4) B):=rfl
 rw [this,yaB _ _ (by omega)];congr 5;omega
theorem Le:[Value.int .u8 0,Value.int .u8 0,Value.int .u8 0,Value.int .u8 0,Value.int .u8 0,Value.int .u8 0,Value.int .u8 0,Value.int .u8 0,Value.int .u8 0,Value.int .u8 0,Value.int .u8 0,Value.int .u8 0,Value.int .u8 0,Value.int .u8 0,Value.int .u8 0,Value.int .u8 0,Value.int .u8 0,Value.int .u8 0,Value.int .u8 0,Value.int .u8 0,Value.int .u8 0,Value.int .u8 0,Value.int .u8 0,Value.int .u8 0,Value.int .u8 0,Value.int .u8 0,Value.int .u8 0,Value.int .u8 0,Value.int .u8 0,Value.int .u8 0,Value.int .u8 0,Value.int .u8 0,Value.int .u8 0,Value.int .u8 0,Value.int .u8 0,Value.int .u8 0,Value.int .u8 0,Value.int .u8 0,Value.int .u8 0,Value.int .u8 0,Value.int .u8 0,Value.int .u8 0,Value.int .u8 0,Value.int .u8 0,Value.int .u8 0,Value.int .u8 0,Value.int .u8 0,Value.int .u8 0,Value.int .u8 0,Value.int .u8 0,Value.int .u8 0,Value.int .u8 0,Value.int .u8 0,Value.int .u8 0,Value.int .u8 0,Value.int .u8 0,Value.int .u8 0,Value.int .u8 0,Value.int .u8 0,Value.int .u8 0,Value.int .u8 0,Value.int .u8 0,Value.int .u8 0,Value.int .u8 0,Value.bool false]=yaa 64 (Value.int .u8 0)++[Value.bool false]:=rfl
theorem Jn:yac V.v (yaU 64 (Value.int .u8 0)).toList=zS.enc:=rfl
theorem Hx:yac V.v (yaa 64 (Value.int .u8 0))=zS.enc:=rfl
theorem e6 {s:Sec} {M:List Nat}:bK M s.enc=s.enc:=by
 unfold Sec.enc
 generalize s.l=l
 induction l with
 | nil=>rfl
 | cons x r ih=>simp [bK,kill,xD,ih]
theorem Hp {s:Sec} {g:Nat→Option Nat}:dN g s.enc=s.enc:=by
 unfold Sec.enc
 generalize s.l=l
 induction l with
 | nil=>rfl
 | cons x r ih=>simp [dN,ren,xD,ih]
theorem Li:yac V.v (yaa 64 (Value.int .u8 0)++[Value.bool false])=zC.enc:=rfl
theorem adG {s:Sec} {x:Bool}:s.enc++[V.v (.bool x)]=Cl.enc ⟨s,x⟩:=rfl
theorem Xn {c:Cl}:yas 64 c.enc=[V.v (.bool c.bad)]:=by
 rw [Cl.enc,ybf (by simp [bR]),iW];rfl
theorem Rb {l:List Cl} {k:Nat} {c:Cl}:(yac Cl.enc l).set k c.enc=yac Cl.enc (l.set k c):=by rw [ybt]
theorem Uv:zC.bad=false:=rfl
theorem iQ {D:Dk} {X Y:List Blk}:dkT D++X++Y=dkT D++(X++Y):=yaq ..
theorem Ix {a b c:Blk} {D:Dk} {X:List Blk} {k:Nat} (hk:k<D.opn.length) (ho:D.op k≠[]):(a::b::c::(dkT D++X))[3+k]?=some (.arr 64 ((D.op k).map Sec.enc)):=by
 have e:D.op k=D.opn[k]:=by rw [Dk.op,yao,yak hk];rfl
 rw [show 3+k=k+3 by omega]
 show (dkT D++X)[k]?=_
 rw [yaI (by rw [pY];exact hk)]
 simp only [dkT,yaM,yak hk,ybO,tW]
 rw [if_neg (by rw [←e];exact ho),e]
theorem Ag {D:Dk} {M:List Nat} {X:List Blk}:yac (aD M) (dkT D++X)=dkT D++X.map (aD M):=by rw [yap,xH]
theorem Rq {cx:Cx} {e:Env} {h:List Blk} {b:Nat} {kd:TypeDesc} {m k:Operand} {K:V→St→Prop}:aOp cx (.mdel kd m k) ⟨e,h,b⟩ K=vY kd (ev e k) fun key=>gO h (ev e m) fun b' es c=>b'∉cx.bn∧yU (dA kd key es 0) es c fun B=>K (.v (.tuple #[])) ⟨e,h.set b' B,b⟩:=rfl
theorem Ry {i c:Nat} {y:V} {es:List (Value × V × Nat)} {K:Blk→Prop}:yU (some (some (i,y))) es c K=K (.map (es.eraseIdx i) c):=rfl
theorem Xc {a b c:Blk} {T X:List Blk}:(a::b::c::(T++X))[T.length+8]?=X[5]?:=by
 have:(a::b::c::(T++X))[T.length+8]?=(T++X)[T.length+5]?:=rfl
 rw [this,yay (by omega)];congr 1;omega
theorem Vg {a b c B:Blk} {T X:List Blk}:(a::b::c::(T++X)).set (T.length+8) B=a::b::c::(T++X.set 5 B):=by
 have:(a::b::c::(T++X)).set (T.length+8) B=a::b::c::((T++X).set (T.length+5) B):=rfl
 rw [this,yaB _ _ (by omega)];congr 5;omega
theorem n61 {n:Nat}:n+6+1=n+7:=rfl
set_option maxRecDepth 20000
structure MS where
 D:Dk
 L:List (Nat × Nat)
 c:Nat
 ok:MOk D L c
abbrev MS.n (S:MS):Nat:=S.D.cells.length
def MS.bs (S:MS) (p:Nat):List Blk:=dk p S.D S.L S.c
theorem MS.len (S:MS) {p:Nat}:(S.bs p).length=3+S.n:=Xi S.ok.len
theorem MS.T_len (S:MS):(dkT S.D).length=S.n:=by rw [pY,S.ok.len]
def QM (n:Nat) (Q:V→MS→Prop):V→List Blk→Prop:=fun r h=>∃ S':MS,(S'.n=n∧Q r S')∧h=S'.bs 0
abbrev OkD (f:FuncId) (xs:List V) (S:MS) (Q:V→MS→Prop):Prop:=OkN Tryd.prog f xs (S.bs 0) (yae 3 S.n) (QM S.n Q)
theorem c9 {p m k:Nat}:pos (yae p m) k=if p≤k∧k<p+m then some (k-p) else none:=by
 induction m generalizing p with
 | zero=>rw [if_neg (by omega)];rfl
 | succ m ih =>
  rw [yba,pos,ih]
  by_cases h:k=p
  ·rw [if_pos h,if_pos (by omega)];simp [h]
  ·rw [if_neg h]
   by_cases h2:p+1≤k∧k<p+1+m
   ·rw [if_pos h2,if_pos (by omega)];simp;omega
   ·rw [if_neg h2,if_neg (by omega)];rfl
theorem eZ {X Y B:List Blk}:∀ {A:List Blk},Y.length=X.length→aS (yae A.length X.length) Y (A++(X++B))=A++(Y++B):=by
 induction X generalizing Y with
 | nil =>
  intro A h
  have:Y=[]:=List.length_eq_zero_iff.1 h
  subst this
  simp [aS]
 | cons x X ih =>
  intro A h
  cases Y with
  | nil=>simp at h
  | cons y Y =>
   have:=ih (Y:=Y) (A:=A++[y]) (by simpa using h)
   rw [yaw,yba,aS]
   have e:(A++(x::X++B)).set A.length y=(A++[y])++(X++B):=by
    rw [yaB _ _ (yad _)];simp
   rw [e]
   rw [yag,ych] at this
   rw [this];simp
theorem mA {p m N j:Nat}:back (yae p m) N j=if j<m then some (p+j) else some (N+(j-m)):=by
 unfold back
 by_cases h:j<m
 ·rw [if_pos h];simp [ybW,h]
 ·rw [if_neg h,ybK (by simp;omega)];simp
theorem vO {p n:Nat}:(yae 3 n).filterMap ((yae p (3+n))[·]?)=yae (p+3) n:=by
 have h:∀ (m a:Nat),a+m≤3+n→(yae a m).filterMap ((yae p (3+n))[·]?)=yae (p+a) m:=by
  intro m
  induction m with
  | zero=>intro a _;rfl
  | succ m ih =>
   intro a ha
   rw [yba,List.filterMap_cons,ybW (by omega),ih (a+1) (by omega)]
   simp [yba,ybJ]
 exact h n 3 (by omega)
section
variable {cx:Cx} {f:FuncId} {e:Env} {b:Nat} {K:V→St→Prop}
theorem Jk (A B:List Blk) (S:MS) (args xs:List V) (Q:V→MS→Prop) (hC:cx.C f (.ptr 0 0 0::xs) (S.bs 0) (yae 3 S.n) (QM S.n Q))
  (ha:aN (A++(S.bs A.length++B)) (pos (yae A.length (3+S.n))) args∧wkL xs (aX (A++(S.bs A.length++B)) (pos (yae A.length (3+S.n))) args))
  (hbn:∀ k∈cx.bn,k<A.length∨A.length+(3+S.n)≤k) (hfx:∀ k∈cx.fx,k<A.length+3∨A.length+3+S.n≤k)
  (hA:A.map (aD (yae (A.length+3) S.n))=A) (hB:B.map (aD (yae (A.length+3) S.n))=B) (hE:aB (yae (A.length+3) S.n) e=e)
  (h3:∀ (r:V) (S':MS),S'.n=S.n→Q r S'→(∀ g,ren g r=r)∧aJ cx.fx (A++(S'.bs A.length++B))∧K r ⟨e,A++(S'.bs A.length++B),b⟩):cB cx f (.ptr A.length 0 0::args) ⟨e,A++(S.bs A.length++B),b⟩ K:=by
 have hl:=S.len (p:=A.length)
 have hsl:3+S.n=(S.bs A.length).length:=hl.symm
 refine ⟨yae A.length (3+S.n),.ptr 0 0 0::xs,yae 3 S.n,QM S.n Q,⟨⟨List.nodup_range',fun k hk=>?_⟩,fun j hj k hk hkf=>?_⟩,?_,?_,?_,?_⟩
 ·rw [yaE] at hk
  refine ⟨by simp only [yag,hl];omega,fun hb=>?_⟩
  have:=hbn k hb
  omega
 ·rw [yaE] at hj
  rw [ybW (by omega)] at hk
  have:=hfx k hkf
  simp only [Option.some.injEq] at hk
  omega
 ·refine ⟨?_,ha.1⟩
  simp only [aY]
 ·refine ⟨?_,ha.2⟩
  simp only [cG,c9]
  rw [if_pos (by omega),ybi]
  exact rfl
 ·have e1:(yae A.length (3+S.n)).map (fun k=>bB (pos (yae A.length (3+S.n))) (blk (A++(S.bs A.length++B)) k))=S.bs 0:=by
   have h1:(S.bs A.length).map (bB (pos (yae A.length (3+S.n))))=S.bs 0:=eQ S.ok fun j hj=>by
    have hj2:j<3+S.n:=hj
    rw [c9,if_pos (by omega)];simp
   rw [←h1]
   apply List.ext_getElem
   ·simp [hl]
   ·intro j h2 h3
    simp only [yaC,List.getElem_range',blk]
    congr 1
    have hj:j<(S.bs A.length).length:=by simpa using h3
    rw [yao,yay (by omega),show A.length+1*j-A.length=j by omega,yaI hj,yak hj];rfl
  rw [e1];exact hC
 ·rintro r h' ⟨S',⟨hn,hq⟩,rfl⟩ _
  obtain ⟨q1,q2,q3⟩:=h3 r S' hn hq
  have e2:(S'.bs 0).map (bB (back (yae A.length (3+S.n)) (A++(S.bs A.length++B)).length))=S'.bs A.length:=eQ S'.ok fun j hj=>by
   have hj2:j<3+S'.n:=hj
   rw [mA,if_pos (by omega)];simp
  rw [vO,e2,yap,yap,hA,hB,hE]
  have e3:aS (yae A.length (3+S.n)) (S'.bs A.length) (A++((S.bs A.length).map (aD (yae (A.length+3) S.n))++B))=A++(S'.bs A.length++B):=by
   have:=eZ (X:=(S.bs A.length).map (aD (yae (A.length+3) S.n))) (Y:=S'.bs A.length) (B:=B) (A:=A) (by rw [yat,S.len,S'.len,hn])
   rw [yat,hl] at this
   exact this
  rw [e3,q1]
  exact ⟨q2,q3⟩
end
theorem Rz {S:MS} {p:Nat} {A B:List Blk} (hp:p=A.length) {i:Nat} (hi:i<S.n) (ho:S.D.op i≠[]):aC (A++(S.bs p++B)) (p+3+i):=by
 subst hp
 have h1:i<S.D.opn.length:=by rw [S.ok.len];exact hi
 have h2:S.D.op i=S.D.opn[i]:=by rw [Dk.op,yao,yak h1];rfl
 have hx:(A++(S.bs A.length++B))[A.length+3+i]?=some (tW S.D.opn[i]):=by
  rw [yay (by omega),yaI (by rw [S.len];omega)]
  rw [show A.length+3+i-A.length=i+3 by omega]
  simp [MS.bs,dk,dkT,h1]
 unfold aC
 rw [hx,tW,if_neg (by rw [←h2];exact ho)]
 trivial
theorem Ty {H:List Blk} {D:Dk} {B:List Blk} (hB:wfB H B):wfB H (dkT D++B):=by
 unfold dkT
 generalize D.opn=l
 induction l with
 | nil=>exact hB
 | cons x r ih =>
  show wfB H (tW x::(r.map tW++B))
  unfold tW
  split
  ·exact ih
  ·exact ih
theorem MS.wf (S:MS) (A B:List Blk) {p:Nat} (hp:p=A.length) {C:List Blk} (hC:wfB (A++(S.bs p++B)) C):wfB (A++(S.bs p++B)) (S.bs p++C):=by
 have hl:∀ j,j<3→aC (A++(S.bs p++B)) (p+j):=by
  intro j hj
  subst hp
  unfold aC
  rw [yay (by omega),yaI (by rw [S.len];omega)]
  rw [show A.length+j-A.length=j by omega]
  rcases j with _|_|_|j
  ·trivial
  ·trivial
  ·trivial
  ·omega
 show wfB _ (dkV p S.D::dkC S.D::.map (bP p S.D S.L) S.c::(dkT S.D++C))
 refine ⟨⟨hl 1 (by omega),hl 2 (by omega),trivial,trivial,trivial,trivial⟩,?_,Ty hC⟩
 have:∀ l:List (Nat × Nat),(∀ e∈l,e∈S.L)→wfL (A++(S.bs p++B)) ((l.map fun e=>((.int .i64 e.1,.sl (p+3+e.1) 0 (S.D.op e.1).length,e.2):Value × V × Nat)).map (·.2.1)):=by
  intro l
  induction l with
  | nil=>intro _;trivial
  | cons x r ih =>
   intro h
   have h2:=(S.ok.key x.1).1 (ybq (h x yaP))
   exact ⟨Rz hp h2.1 h2.2,ih fun e he=>h e (yaQ _ he)⟩
 exact this S.L fun _ h=>h
set_option maxRecDepth 20000
theorem cX:∀ {h X:List Blk},leH (h++X) h
 | [],X=>by cases X<;>trivial
 | b::h,X=>⟨aO b,cX⟩
theorem lQ {f:FuncId} {l0 l:LCode} {rs:List d7} {nt:Nat} (hl:rlF Tryd.prog f l0=some (l,rs,nt)) {args:List V} {S:MS} {Q:V→MS→Prop} (hlen:args.length≤nt)
  (h:aw (cxN Tryd.prog [0,1,2]) l (cE [0,1,2] (3+S.n) rs (QM S.n Q)) (fun _ _=>False) (cE [0,1,2] (3+S.n) rs (QM S.n Q)) ⟨aV 0 args,dkV 0 S.D::dkC S.D::.map (bP 0 S.D S.L) S.c::dkT S.D,0⟩):OkD f args S Q:=by
 refine fJ pol [0,1,2] hl hlen ⟨trivial,trivial,trivial,trivial⟩ (fun k hk hm=>?_) (by rw [S.len];exact h)
 rw [S.len] at hk
 have:¬(3≤k∧k<3+S.n):=fun h2=>hm (yaE.2 h2)
 have h3:k=0∨k=1∨k=2:=by omega
 rcases h3 with rfl|rfl|rfl<;>simp
theorem resP_mono {h:List Blk} {e:Env} (rs:List d7) (acc:List V) {K K':List V→Prop} (hk:∀ xs,K xs→K' xs) (hh:a8 h e rs acc K):a8 h e rs acc K':=by
 induction rs generalizing acc with
 | nil=>exact hk _ hh
 | cons r rs ih =>
  cases r with
  | tmp t=>exact ih _ hh
  | cell a n =>
   simp only [a8] at hh ⊢
   have hcs:∀ (n:Option Nat) (f:Nat) (cs:List V) {A B:V→Prop},(∀ x,A x→B x)→bM n f cs A→bM n f cs B:=by
    intro n f cs A B hab hl
    unfold bM at hl ⊢
    split at hl
    ·unfold cI at hl ⊢
     split at hl
     ·exact hab _ hl
     ·exact hl.elim
    ·exact ⟨hl.1,hab _ hl.2⟩
   unfold f7 at hh ⊢
   split at hh
   ·unfold mI at hh ⊢
    split at hh
    ·exact hcs _ _ _ (fun x=>ih _) hh
    ·obtain ⟨hi,hh⟩:=hh;exact ⟨hi,hcs _ _ _ (fun x=>ih _) hh⟩
    ·obtain ⟨hi,hh⟩:=hh;exact ⟨hi,hcs _ _ _ (fun x=>ih _) hh⟩
    ·exact hh.elim
   ·obtain ⟨hi,hh⟩:=hh;exact ⟨hi,hcs _ _ _ (fun x=>ih _) hh⟩
   ·exact hh.elim
theorem tK (S':MS) {n b:Nat} {e:Env} {h:List Blk} {rs:List d7} {Q:V→MS→Prop} (hh:leH h (S'.bs 0)) (hn:S'.n=n) (hr:a8 h e rs [] fun xs=>wfV (S'.bs 0) (bF xs)∧Q (bF xs) S'):cE [0,1,2] (3+n) rs (QM n Q) ⟨e,h,b⟩:=by
 rw [dW]
 refine resP_mono _ _ ?_ hr
 rintro xs ⟨h1,h2⟩
 refine ⟨S'.bs 0,⟨hh,⟨trivial,trivial,trivial,trivial⟩,by rw [S'.len,hn];exact yad _,h1,?_⟩,S',⟨hn,h2⟩,rfl⟩
 have:=S'.wf (p:=0) [] [] rfl (C:=[]) trivial
 simpa using this
def Dk.chk (D:Dk) (i:Int):Int:=if D.dead then 130 else if i<0∨(D.n:Int)≤i then 1 else 0
theorem We (S:MS) (i:Int):OkD 17 [.ptr 0 0 0,.i i] S (fun r S'=>S'=S∧r=.i (S.D.chk i)):=by
 refine lQ lw17 (by simp) ?_
 unfold c17 dkV dkC
 simp -implicitDefEqProofs only [rX,↓rY,aA,↓reduceIte,Nat.reduceEqDiff,reduceCtorEq,cxN,aV]
 simp only [br,decide_eq_true_eq,decide_eq_false_iff_not]
 have fin:∀ (e:Env) (b:Nat) (q:Int),get e 4=.i q→q=S.D.chk i→cE [0,1,2] (3+S.n) [d7.tmp 4] (QM S.n fun r S'=>S'=S∧r=.i (S.D.chk i)) ⟨e,dkV 0 S.D::dkC S.D::.map (bP 0 S.D S.L) S.c::dkT S.D,b⟩:=by
  intro e b q hq he
  refine tK S (aF _) rfl ?_
  simp only [a8,ybm,ybn,yaZ,bF,hq,he]
  exact ⟨trivial,trivial,trivial⟩
 refine ⟨fun h=>fin _ _ 130 rfl (by simp [Dk.chk,h]),fun h=>⟨fun h1=>fin _ _ 1 rfl (by simp [Dk.chk,h,h1]),fun h1 _=>⟨fun h2=>fin _ _ 1 rfl (by simp [Dk.chk,h,h2]),fun h2=>fin _ _ 0 rfl (by simp [Dk.chk,h,h1,h2])⟩⟩⟩
def MS.set (S:MS) (st:Nat) (af:Int) (dd:Bool):MS:=⟨{ S.D with steps:=st,after:=af,dead:=dd },S.L,S.c,⟨S.ok.len,S.ok.nod,S.ok.key,S.ok.st,S.ok.clk⟩⟩
def MS.step (S:MS):MS:=if S.D.after=0 then S.set S.D.steps S.D.after true else S.set (S.D.steps+1) (if 0<S.D.after then S.D.after-1 else S.D.after) S.D.dead
def Dk.stepE (D:Dk):Int:=if D.after=0 then 130 else 0
theorem abS (S:MS) (hs:S.D.steps≤1000000000000000) (ha:-1≤S.D.after∧S.D.after≤9223372036854775807):OkD 18 [.ptr 0 0 0] S (fun r S'=>S'=S.step∧r=.i S.D.stepE):=by
 refine lQ lw18 (by simp) ?_
 unfold c18 dkV dkC
 simp -implicitDefEqProofs only [rX,↓rY,aA,cells?,splice,↓reduceIte,Nat.reduceEqDiff,Nat.reduceAdd,reduceCtorEq,isC,Nat.reduceLeDiff,cxN,aV]
 simp only [br,decide_eq_true_eq,decide_eq_false_iff_not,beq_iff_eq,beq_eq_false_iff_ne]
 have fin:∀ (e:Env) (b:Nat) (q:Int) (st:Nat) (af:Int) (dd:Bool),get e 2=.i q→q=S.D.stepE→S.set st af dd=S.step→∀ st':Int,st'=st→cE [0,1,2] (3+S.n) [d7.tmp 2] (QM S.n fun r S'=>S'=S.step∧r=.i S.D.stepE) ⟨e,.var [.sl 1 0 S.D.n,.mp 2,.v (.int .i64 st'),.v (.int .i64 af),.v (.bool dd)]::dkC S.D::.map (bP 0 S.D S.L) S.c::dkT S.D,b⟩:=by
  intro e b q st af dd hq he hs st' hst
  subst hst
  refine tK (S.set st af dd) (aF _) rfl ?_
  simp only [a8,ybm,ybn,yaZ,bF,hq,he]
  exact ⟨trivial,hs,trivial⟩
 refine ⟨fun h=>fin _ _ 130 S.D.steps S.D.after true rfl (by simp [Dk.stepE,h]) (by simp [MS.step,h]) _ rfl,fun h=>⟨fun h1=>⟨by simp only [lo,hi];omega,by simp only [lo,hi];omega,fin _ _ 0 (S.D.steps+1) (S.D.after-1) S.D.dead rfl (by simp [Dk.stepE,h]) (by simp [MS.step,h,h1]) _ (by omega)⟩,fun h1=>⟨by simp only [lo,hi];omega,fin _ _ 0 (S.D.steps+1) S.D.after S.D.dead rfl (by simp [Dk.stepE,h]) (by simp [MS.step,h,h1]) _ (by omega)⟩⟩⟩
theorem agQ (S:MS):OkD 19 [.ptr 0 0 0] S (fun r S'=>S'=S∧r=.i S.n):=by
 refine lQ lw19 (by simp) ?_
 unfold c19 dkV dkC
 simp -implicitDefEqProofs only [rX,↓rY,aA,↓reduceIte,reduceCtorEq,cxN,aV]
 exact fun _=>tK S (aF _) rfl ⟨trivial,rfl,rfl⟩
theorem agP (S:MS):OkD 20 [.ptr 0 0 0] S (fun r S'=>S'=S∧r=.b S.D.dead):=by
 refine lQ lw20 (by simp) ?_
 unfold c20 dkV dkC
 simp -implicitDefEqProofs only [rX,↓rY,aA,↓reduceIte,reduceCtorEq,cxN,aV]
 exact tK S (aF _) rfl ⟨trivial,rfl,rfl⟩
set_option maxRecDepth 20000
theorem y0 {h:List Blk}:∀ {l:List Nat},(∀ k∈l,aC h k)→aJ l h
 | [],_=>trivial
 | k::r,hl=>⟨hl k yaP,y0 fun j hj=>hl j (yaQ _ hj)⟩
theorem xL {cx:Cx} {f:FuncId} {e:Env} {b:Nat} {K:V→St→Prop} {B:List Blk} {S:MS} {args xs:List V} {Q:V→MS→Prop} (hC:cx.C f (.ptr 0 0 0::xs) (S.bs 0) (yae 3 S.n) (QM S.n Q))
  (ha:∀ (H:List Blk) (g:Nat→Option Nat),aN H g args∧wkL xs (aX H g args))
  (hbn:∀ k∈cx.bn,3+S.n≤k) (hfx:∀ k∈cx.fx,k<3)
  (hB:B.map (aD (yae 3 S.n))=B) (hE:aB (yae 3 S.n) e=e)
  (h3:∀ (r:V) (S':MS),S'.n=S.n→Q r S'→(∀ g,ren g r=r)∧K r ⟨e,dkV 0 S'.D::dkC S'.D::.map (bP 0 S'.D S'.L) S'.c::(dkT S'.D++B),b⟩):cB cx f (.ptr 0 0 0::args) ⟨e,dkV 0 S.D::dkC S.D::.map (bP 0 S.D S.L) S.c::(dkT S.D++B),b⟩ K:=by
 refine Jk [] B S args xs Q hC (ha _ _) (fun k hk=>.inr ?_) (fun k hk=>.inl ?_) rfl hB hE fun r S' h1 h2=>?_
 ·have:=hbn k hk;simpa using this
 ·have:=hfx k hk;simpa using this
 ·obtain ⟨g1,g2⟩:=h3 r S' h1 h2
  refine ⟨g1,y0 fun k hk=>?_,g2⟩
  have:=hfx k hk
  rcases k with _|_|_|k
  ·trivial
  ·trivial
  ·trivial
  ·omega
theorem Jj {cx:Cx} {f:FuncId} {e:Env} {b:Nat} {K:V→St→Prop} {S:MS} {args xs:List V} {Q:V→MS→Prop} (hC:cx.C f (.ptr 0 0 0::xs) (S.bs 0) (yae 3 S.n) (QM S.n Q))
  (ha:∀ (H:List Blk) (g:Nat→Option Nat),aN H g args∧wkL xs (aX H g args))
  (hbn:∀ k∈cx.bn,3+S.n≤k) (hfx:∀ k∈cx.fx,k<3) (hE:aB (yae 3 S.n) e=e)
  (h3:∀ (r:V) (S':MS),S'.n=S.n→Q r S'→(∀ g,ren g r=r)∧K r ⟨e,dkV 0 S'.D::dkC S'.D::.map (bP 0 S'.D S'.L) S'.c::dkT S'.D,b⟩):cB cx f (.ptr 0 0 0::args) ⟨e,dkV 0 S.D::dkC S.D::.map (bP 0 S.D S.L) S.c::dkT S.D,b⟩ K:=by
 have:=xL (B:=[]) (b:=b) (K:=K) hC ha hbn hfx rfl hE fun r S' h1 h2=>by
  have:=h3 r S' h1 h2
  rwa [yar]
 rwa [yar] at this
theorem pN {p:Nat} {D:Dk} {k:Nat}:∀ {L:List (Nat × Nat)} {j:Nat},(k∉L.map (·.1)→dA (.int .i64) (.int .i64 k) (bP p D L) j=some none)∧(k∈L.map (·.1)→∃ m,j≤m∧m<j+L.length∧(L[m-j]?).map (·.1)=some k∧dA (.int .i64) (.int .i64 k) (bP p D L) j=some (some (m,.sl (p+3+k) 0 (D.op k).length)))
 | [],j=>⟨fun _=>rfl,fun h=>by simp at h⟩
 | e::L,j=>by
  have ih:=pN (p:=p) (D:=D) (k:=k) (L:=L) (j:=j+1)
  have es:Instr.sameNow (.int .i64) (.int .i64 k) (.int .i64 e.1)=some ((k:Int)==(e.1:Int)):=rfl
  by_cases h:k=e.1
  ·refine ⟨fun h2=>absurd (by rw [h];exact yaP) h2,fun _=>⟨j,yad _,by simp,by simp [h],?_⟩⟩
   simp only [bP,yal,dA,es]
   rw [show ((k:Int)==(e.1:Int))=true by simp [h]]
   simp only [h]
  ·have hne:((k:Int)==(e.1:Int))=false:=by simp;omega
   have e2:dA (.int .i64) (.int .i64 k) (bP p D (e::L)) j=dA (.int .i64) (.int .i64 k) (bP p D L) (j+1):=by
    simp only [bP,yal,dA,es,hne]
   rw [e2]
   constructor
   ·intro h2
    exact ih.1 fun h3=>h2 (yaQ _ h3)
   ·intro h2
    have h3:k∈L.map (·.1):=by
     rcases ybh.1 h2 with h3|h3
     ·exact absurd h3 h
     ·exact h3
    obtain ⟨m,h4,h5,h6,h7⟩:=ih.2 h3
    refine ⟨m,by omega,by simp only [yaw];omega,?_,h7⟩
    rw [show m-j=m-(j+1)+1 by omega,List.getElem?_cons_succ];exact h6
def opV (p:Nat) (D:Dk) (k:Nat):V:=if D.op k=[] then .nil else .sl (p+3+k) 0 (D.op k).length
theorem Ii (S:MS) {p k:Nat} (hk:k<S.n) {K:V→Prop}:dS (dA (.int .i64) (.int .i64 k) (bP p S.D S.L) 0) (.slice none 0 0) false K=K (opV p S.D k):=by
 have h:=pN (p:=p) (D:=S.D) (k:=k) (L:=S.L) (j:=0)
 by_cases ho:S.D.op k=[]
 ·rw [h.1 fun hm=>((S.ok.key k).1 hm).2 ho,opV,if_pos ho];rfl
 ·obtain ⟨m,_,_,_,h2⟩:=h.2 ((S.ok.key k).2 ⟨hk,ho⟩)
  rw [h2,opV,if_neg ho];rfl
theorem Vi {H:List Blk} {s:Sec}:wfL H s.enc:=by
 unfold Sec.enc
 generalize s.l=l
 induction l with
 | nil=>trivial
 | cons x r ih=>exact ⟨trivial,ih⟩
def Dk.rd (D:Dk) (i:Int):Sec × Int :=
 if D.chk i≠0 then (zS,D.chk i) else
 match (D.op i.toNat).getLast? with
 | some s=>(s,0)
 | none=>if (D.cells.getD i.toNat zC).bad then (zS,131) else ((D.cells.getD i.toNat zC).s,0)
theorem abR (S:MS) (i:Int):OkD 21 [.ptr 0 0 0,.i i] S (fun r S'=>S'=S∧r=.tup [.agg (S.D.rd i).1.enc,.i (S.D.rd i).2]):=by
 refine lQ lw21 (by simp) ?_
 unfold c21 dkV dkC
 simp -implicitDefEqProofs only [rX,↓rY,aA,cells?,↓reduceIte,Nat.reduceEqDiff,reduceCtorEq,aG,cxN,Jn,dP,fI,aV]
 refine xL (B:=[.var zS.enc]) (S:=S) (We S i) (fun _ _=>⟨⟨trivial,trivial⟩,rfl,trivial⟩) (by simp) (by simp) (by simp [aD,e6]) (by simp [aB,kill,yaE,S.T_len];omega) ?_
 rintro r S' hn ⟨rfl,rfl⟩
 refine ⟨fun g=>rfl,?_⟩
 simp -implicitDefEqProofs only [rX,↓rY,zV,aA,cells?,splice,↓reduceIte,Nat.reduceEqDiff,eB,reduceCtorEq,cP,Nat.reduceLeDiff,↓qbW,↓qbZ,↓qcj,yaC,Hx,bR,yJ,Gq,Tc,Xo,dP,fI,dkV,dkC,iW]
 simp only [br,decide_eq_true_eq,decide_eq_false_iff_not,bne_iff_ne,bne_eq_false_iff_eq]
 have hc:S'.D.chk i=0→0≤i∧i<S'.n∧S'.D.dead=false:=by
  intro h
  unfold Dk.chk at h
  split at h
  ·cases h
  ·rename_i hd
   split at h
   ·cases h
   ·refine ⟨by omega,by show i<(S'.D.n:Int);omega,by simpa using hd⟩
 have fin:∀ (e:Env) (b:Nat) (q:Int) (s:Sec),get e 4=.ptr ((dkT S'.D).length+3) 0 0→get e 5=.i q→S'.D.rd i=(s,q)→cE [0,1,2] (3+S'.n) [d7.cell 4 (some 64),d7.tmp 5] (QM S'.n fun r S₁=>S₁=S'∧r=V.tup [V.agg (S'.D.rd i).fst.enc,V.i (S'.D.rd i).snd]) ⟨e,dkV 0 S'.D::dkC S'.D::.map (bP 0 S'.D S'.L) S'.c::(dkT S'.D++[.var s.enc]),b⟩:=by
  intro e b q s h4 h5 hr
  refine tK S' (cX (h:=S'.bs 0) (X:=[.var s.enc])) rfl ?_
  simp -implicitDefEqProofs only [rX,↓rY,a8,bF,wfV,wfL,bR,eE,dP,dkV,dkC,h4,h5,hr]
  simp [wfV,wfL,Vi]
 refine ⟨fun h=>fin _ _ _ _ rfl rfl (by rw [Dk.rd,if_pos h]),fun h=>?_⟩
 obtain ⟨h1,h2,h3⟩:=hc h
 obtain ⟨k,rfl⟩:∃ k:Nat,i=k:=⟨i.toNat,by omega⟩
 have hk:k<S'.n:=by omega
 have hkc:S'.D.cells.getD k zC=S'.D.cells[k]'hk:=by rw [yao,yak hk];rfl
 rw [Ii S' hk,opV]
 by_cases ho:S'.D.op k=[]
 ·rw [if_pos ho]
  have hr:S'.D.rd k=if (S'.D.cells[k]'hk).bad then (zS,131) else ((S'.D.cells[k]'hk).s,0):=by
   rw [Dk.rd,if_neg (by rw [h];simp),yaj,ho,hkc];rfl
  simp -implicitDefEqProofs only [rX,↓qaM,↓qaR,yaj]
  exact ⟨fun h=>absurd h (by omega),fun _=>⟨⟨by omega,by exact h2⟩,hk,fun hb=>fin _ _ _ _ rfl rfl (by rw [hr,if_pos hb]),fun hb=>⟨⟨by omega,by exact h2⟩,hk,fin _ _ _ _ rfl rfl (by rw [hr,hb];rfl)⟩⟩⟩
 ·rw [if_neg ho]
  have hl:0<(S'.D.op k).length:=ycc.2 ho
  simp -implicitDefEqProofs only [rX,↓rY,Nat.reduceEqDiff,eB,yaj]
  rw [Ix (by rw [S'.ok.len];exact hk) ho]
  simp -implicitDefEqProofs only [rX,↓rY,yaC,bR,eE,yJ,iW]
  have hr:S'.D.rd k=((S'.D.op k)[(S'.D.op k).length-1],0):=by
   rw [Dk.rd,if_neg (by rw [h];simp),yaj,List.getLast?_eq_getElem?,yak (by omega)]
  have e1:∀ hx,(S'.D.op k)[((S'.D.op k).length-1:Int).toNat]'hx=(S'.D.op k)[(S'.D.op k).length-1]:=fun hx=>by congr 1;omega
  exact fun hm=>⟨fun _ _=>⟨by simp only [lo,hi];unfold maxLen at hm;omega,⟨by omega,by omega⟩,by omega,fin _ _ _ _ rfl rfl (by rw [hr,e1])⟩,fun h=>absurd h (by omega)⟩
set_option maxRecDepth 20000
theorem Xh {a b:By} {K:Bool→Prop}:eqC (.int .u8) (some (xD a)) (some (xD b)) K=K (a==b):=by
 have e:eqK (.int .u8 a.toNat) (.int .u8 b.toNat)=(a==b):=by
  show ((a.toNat:Int)==(b.toNat:Int))=(a==b)
  by_cases h:a=b
  ·subst h;simp
  ·have h2:a.toNat≠b.toNat:=fun h3=>h (ybH h3)
   have h3:(a==b)=false:=by simpa using h
   rw [h3];simp;omega
 show ((_∧_)∧K (eqK _ _))=_
 rw [e]
 exact propext ⟨fun h=>h.2,fun h=>⟨⟨rfl,rfl⟩,h⟩⟩
theorem Ja {l1 l2:List By} {xs ys:List V} (hx:∀ i (h:i<l1.length),xs[i]?=some (xD l1[i])) (hy:∀ i (h:i<l2.length),ys[i]?=some (xD l2[i])):∀ {m a:Nat} {K:Bool→Prop},a+m≤l1.length→a+m≤l2.length →
  eG xs ys ((yae a m).map fun i=>(i,.int .u8)) K=K ((l1.drop a).take m==(l2.drop a).take m)
 | 0,a,K,_,_=>by simp [eG]
 | m+1,a,K,h1,h2=>by
  rw [yba,yal,eG,hx a (by omega),hy a (by omega),Xh,Ja hx hy (by omega) (by omega),ybp (show a<l1.length by omega),ybp (show a<l2.length by omega),ybB,ybB]
  rfl
theorem Hq {s:Sec} {r:List V} {i:Nat} (h:i<s.l.length):(s.enc++r)[i]?=some (xD s.l[i]):=by
 rw [yaI (by rw [bR];rw [s.h] at h;exact h)]
 simp [Sec.enc,h]
theorem Vj {s t:Sec} {r q:List V} {K:Bool→Prop}:eG (s.enc++r) (t.enc++q) ((yae 0 64).map fun i=>(i,.int .u8)) K=K (decide (s=t)):=by
 rw [Ja (fun i h=>Hq h) (fun i h=>Hq h) (by rw [s.h];omega) (by rw [t.h];omega)]
 congr 1
 simp only [ybo]
 rw [yaf (by rw [s.h];omega),yaf (by rw [t.h];omega)]
 by_cases h:s=t
 ·subst h;simp
 ·have:s.l≠t.l:=fun h2=>h (by cases s;cases t;cases h2;rfl)
  rw [decide_eq_false h];simpa using this
theorem Sq {s t:Sec} {K:Bool→Prop}:(cI (q8 (.agg s.enc)) fun xs=>cI (q8 (.agg t.enc)) fun ys=>eG xs ys ((yae 0 64).map fun i=>(i,.int .u8)) K)=K (decide (s=t)):=by
 have:=Vj (s:=s) (t:=t) (r:=[]) (q:=[]) (K:=K)
 simp only [yar] at this
 exact this
set_option maxRecDepth 20000
theorem adI {D:Dk} {i:Int} (h:D.chk i=0):0≤i∧i<(D.cells.length:Int)∧D.dead=false:=by
 unfold Dk.chk at h
 split at h
 ·cases h
 ·rename_i hd
  split at h
  ·cases h
  ·rename_i h3
   have h4:¬i<0∧¬(D.cells.length:Int)≤i:=not_or.1 h3
   exact ⟨by omega,by omega,by simpa using hd⟩
theorem Ra {S:MS} {k:Nat}:S.step.D.op k=S.D.op k:=by unfold MS.step;split<;>rfl
theorem Ue {a b c B:Blk} {T X:List Blk} {k:Nat} (hk:k<T.length):(a::b::c::(T++X)).set (3+k) B=a::b::c::(T.set k B++X):=by
 rw [show 3+k=k+3 by omega]
 show a::b::c::(T++X).set k B=_
 rw [List.set_append_left _ _ hk]
def Dk.stepD (D:Dk):Dk:=if D.after=0 then { D with dead:=true } else { D with steps:=D.steps+1,after:=if 0<D.after then D.after-1 else D.after }
theorem Ay {S:MS}:S.step.D=S.D.stepD:=by
 unfold MS.step Dk.stepD
 split<;>rfl
def Dk.addD (D:Dk) (k:Nat) (s:Sec):Dk:={ D with opn:=D.opn.set k (D.op k++[s]) }
theorem mD {D:Dk} {k j:Nat} {s:Sec} (hk:k<D.opn.length):(D.addD k s).op j=if j=k then D.op k++[s] else D.op j:=by
 show ((D.opn.set k _).getD j [])=_
 rw [yao,List.getElem?_set]
 by_cases h:j=k
 ·subst h;rw [if_pos rfl,if_pos rfl,if_pos hk];rfl
 ·rw [if_neg (fun e=>h e.symm),if_neg h,←yao];rfl
theorem Ut {D:Dk} {k:Nat} {s:Sec}:dkT (D.addD k s)=(dkT D).set k (.arr 64 ((D.op k).map Sec.enc++[s.enc])):=by
 show (D.opn.set k _).map tW=_
 rw [ybt]
 congr 1
 rw [tW,if_neg (by simp)];simp
theorem yT {kd:TypeDesc} {key:Value} {f:V→V}:∀ {es:List (Value × V × Nat)} {j:Nat},dA kd key (es.map fun e=>(e.1,f e.2.1,e.2.2)) j=(dA kd key es j).map (·.map fun p=>(p.1,f p.2))
 | [],j=>rfl
 | e::es,j=>by
  simp only [yal,dA]
  cases Instr.sameNow kd key e.1 with
  | none=>rfl
  | some b=>cases b with
   | true=>rfl
   | false=>exact yT
theorem Pi {D:Dk} {L:List (Nat × Nat)} {k m:Nat} {s:Sec} (hk:k<D.opn.length) (hn:(L.map (·.1)).Nodup) (hm:(L[m]?).map (·.1)=some k) :
  ((bP 0 D L).map fun e=>(e.1,kill [3+k] e.2.1,e.2.2)).modify m (fun e=>(.int .i64 k,.sl (3+k) 0 ((D.op k).length+1),e.2.2))=bP 0 (D.addD k s) L:=by
 have hml:m<L.length:=by
  rcases Nat.lt_or_ge m L.length with h|h
  ·exact h
  ·rw [ybK h] at hm;cases hm
 have hmk:L[m].1=k:=by
  rw [yak hml] at hm
  exact Option.some.inj hm
 apply List.ext_getElem
 ·simp [bP]
 ·intro j h1 h2
  have hj:j<L.length:=by simpa [bP] using h2
  rw [List.getElem_modify]
  by_cases hjm:m=j
  ·subst hjm
   rw [if_pos rfl]
   simp only [bP,yaC,hmk,mD hk,if_pos,yag,ych]
  ·rw [if_neg hjm]
   have hne:L[j].1≠k:=fun h=>hjm (by
    have:=(List.getElem_inj (xs:=L.map (·.1)) (i:=m) (j:=j) (h₀:=by simpa using hml) (h₁:=by simpa using hj) hn).1 (by simp [h,hmk])
    exact this)
   simp only [bP,yaC,mD hk,if_neg hne,kill,yaK]
   rw [if_neg (by simp;omega)]
theorem Pj {D:Dk} {L:List (Nat × Nat)} {k:Nat} {s:Sec} (hk:k<D.opn.length) (hm:k∉L.map (·.1)):bP 0 (D.addD k s) L=bP 0 D L:=by
 unfold bP
 refine ybb fun e he=>?_
 have hne:e.1≠k:=fun h=>hm (by rw [←h];exact ybq he)
 rw [mD hk,if_neg hne]
theorem MOk.old {D:Dk} {L:List (Nat × Nat)} {c k:Nat} {s:Sec} (h:MOk D L c) (hk:k<D.n) (ho:D.op k≠[]):MOk (D.addD k s) L c:=by
 have hk2:k<D.opn.length:=by rw [h.len];exact hk
 refine ⟨by show (D.opn.set k _).length=_;rw [ybM];exact h.len,h.nod,fun i=>?_,h.st,h.clk⟩
 rw [h.key i,mD hk2]
 show i<D.n∧_↔i<D.n∧_
 by_cases e:i=k
 ·subst e;rw [if_pos rfl];simp [ho]
 ·rw [if_neg e]
theorem MOk.new {D:Dk} {L:List (Nat × Nat)} {c k:Nat} {s:Sec} (h:MOk D L c) (hk:k<D.n) (ho:D.op k=[]):MOk (D.addD k s) (L++[(k,c)]) (c+1):=by
 have hk2:k<D.opn.length:=by rw [h.len];exact hk
 have hnm:k∉L.map (·.1):=fun hm=>((h.key k).1 hm).2 ho
 refine ⟨by show (D.opn.set k _).length=_;rw [ybM];exact h.len,?_,fun i=>?_,?_,fun e he=>?_⟩
 ·rw [yap,List.nodup_append]
  refine ⟨h.nod,by simp,fun a ha b hb=>?_⟩
  simp at hb;subst hb
  exact fun e=>hnm (e▸ha)
 ·rw [yap,ybu,h.key i,mD hk2]
  show _↔i<D.n∧_
  by_cases e:i=k
  ·subst e;rw [if_pos rfl];simp [hk]
  ·rw [if_neg e];simp [e]
 ·rw [yap,List.nodup_append]
  refine ⟨h.st,by simp,fun a ha b hb=>?_⟩
  simp at hb;subst hb
  obtain ⟨e,he,rfl⟩:=yaV.1 ha
  have:=h.clk e he
  omega
 ·rcases ybu.1 he with he|he
  ·have:=h.clk e he;omega
  ·simp at he;subst he;show c<c+1;omega
def Dk.wrE (D:Dk) (i:Int):Int:=if D.chk i≠0 then D.chk i else D.stepE
def Dk.wrD (D:Dk) (i:Int) (s:Sec):Dk:=if D.chk i≠0 then D else if D.stepE≠0 then D.stepD else D.stepD.addD i.toNat s
def pI (S:MS) (k:Nat) (s:Sec):List Blk:=dkV 0 S.D::dkC S.D::.map (bP 0 S.D S.L++[(.int .i64 k,.sl ((dkT S.D).length+5) 0 1,S.c)]) (S.c+1)::(dkT S.D++[.dead,.dead,.arr 64 [s.enc]])
theorem Xv {S:MS} {A B:List Blk} {k:Nat} (hk:k<S.n) (ho:S.D.op k≠[]) {a b c:Blk} {X:List Blk}:aC (a::b::c::(dkT S.D++X)) (0+3+k):=by
 unfold aC
 rw [show 0+3+k=3+k by omega,Ix (by rw [S.ok.len];exact hk) ho]
 trivial
theorem Jb {H:List Blk} {p:Nat} {D:Dk}:∀ {L:List (Nat × Nat)} {q:List (Value × V × Nat)},(∀ e∈L,aC H (p+3+e.1))→wfL H (q.map (·.2.1))→wfL H ((bP p D L++q).map (·.2.1))
 | [],q,_,hq=>hq
 | e::L,q,h,hq=>⟨h e yaP,Jb (fun x hx=>h x (yaQ _ hx)) hq⟩
theorem Nd {S:MS} {k:Nat} {s:Sec}:(pI S k s).length=3+S.n+3:=by
 have:S.D.n=S.n:=rfl
 simp [pI,pY,S.ok.len];omega
theorem Rn {S:MS} {k:Nat} {s:Sec}:wfB (pI S k s) (pI S k s):=by
 have h5:aC (pI S k s) ((dkT S.D).length+5):=by
  unfold aC pI
  rw [rW];trivial
 refine ⟨⟨trivial,trivial,trivial,trivial,trivial,trivial⟩,Jb (fun e he=>?_) ⟨h5,trivial⟩,Ty trivial⟩
 have h2:=(S.ok.key e.1).1 (ybq he)
 exact Xv (A:=[]) (B:=[]) h2.1 h2.2
theorem Il {a b c:Blk}:∀ {T:List Blk},leH (T++[a,b,c]) (T++[.dead,.dead,c])
 | []=>⟨trivial,trivial,aO c,trivial⟩
 | x::T=>⟨aO x,Il⟩
def Ia (S:MS) (i:Int) (s:Sec):V→List Blk→Prop:=fun r h=>QM S.n (fun r S'=>S'.D=S.D.wrD i s∧r=.i (S.D.wrE i)) r h∨(r=.i (S.D.wrE i)∧∃ (S1:MS) (k:Nat),k<S1.n∧S1.n=S.n∧S1.D.op k=[]∧S1.D.addD k s=S.D.wrD i s∧h=pI S1 k s)
theorem agB (S:MS) (i:Int) (s:Sec) (hs:S.D.steps≤1000000000000000) (ha:-1≤S.D.after∧S.D.after≤9223372036854775807) (hb:∀ k,(S.D.op k).length≤100000):OkN Tryd.prog 6 [.ptr 0 0 0,.i i,.agg s.enc] (S.bs 0) (yae 3 S.n) (Ia S i s):=by
 refine fJ pol [0,1,2] lw6 (by simp) ⟨trivial,trivial,trivial,trivial⟩ (fun k hk hm=>?_) ?_
 ·rw [S.len] at hk
  have:¬(3≤k∧k<3+S.n):=fun h2=>hm (yaE.2 h2)
  have h3:k=0∨k=1∨k=2:=by omega
  rcases h3 with rfl|rfl|rfl<;>simp
 rw [S.len]
 show aw _ _ _ _ _ ⟨_,dkV 0 S.D::dkC S.D::.map (bP 0 S.D S.L) S.c::dkT S.D,0⟩
 unfold c6
 simp -implicitDefEqProofs only [rX,↓rY,aA,cells?,↓reduceIte,Nat.reduceEqDiff,Nat.reduceAdd,reduceCtorEq,aG,cxN,dP,fI,dkV,dkC,aV]
 refine xL (B:=[.var s.enc]) (S:=S) (We S i) (fun _ _=>⟨⟨trivial,trivial⟩,rfl,trivial⟩) (by simp) (by simp) (by simp [aD,e6]) (by simp [aB,kill,yaE,S.T_len,e6];omega) ?_
 rintro r S' _ ⟨hS,rfl⟩
 subst S'
 refine ⟨fun g=>rfl,?_⟩
 simp -implicitDefEqProofs only [rX,↓rY,rdK,zV,aA,cells?,↓reduceIte,Nat.reduceEqDiff,reduceCtorEq,aG,dI,Nat.reduceLT,↓qbW,↓qbZ,↓qcj,Hx,bR,eE,Cz,dP,mZ,oG,dkV,dkC,iQ]
 simp only [br,decide_eq_true_eq,decide_eq_false_iff_not,bne_iff_ne,bne_eq_false_iff_eq,beq_iff_eq,beq_eq_false_iff_ne]
 have finQ:∀ (S1:MS) (e:Env) (h:List Blk) (b:Nat) (q:Int),leH h (S1.bs 0)→get e 6=.i q→q=S.D.wrE i→S1.n=S.n→S1.D=S.D.wrD i s→cE [0,1,2] (3+S.n) [d7.tmp 6] (Ia S i s) ⟨e,h,b⟩:=by
  intro S1 e h b q hh h6 hq hn hD
  have:=tK (b:=b) (e:=e) (rs:=[d7.tmp 6]) (Q:=fun r S'=>S'.D=S.D.wrD i s∧r=.i (S.D.wrE i)) S1 hh hn (by
   simp only [a8,ybm,ybn,yaZ,bF,h6,hq]
   exact ⟨trivial,hD,trivial⟩)
  rw [dW] at this ⊢
  exact resP_mono _ _ (fun xs ⟨p,h1,h2⟩=>⟨p,h1,.inl h2⟩) this
 refine ⟨fun h=>?_,fun h=>?_⟩
 ·refine xL (B:=[.var s.enc]) (S:=S) (abS S hs ha) (fun _ _=>⟨trivial,trivial⟩) (by simp) (by simp) (by simp [aD,e6]) (by simp [aB,kill,yaE,S.T_len,e6];omega) ?_
  rintro r S1 hn1 ⟨hS1,rfl⟩
  have hT:(dkT S.D).length=(dkT S1.D).length:=by rw [S.T_len,S1.T_len,hn1]
  rw [hT]
  refine ⟨fun g=>rfl,?_⟩
  simp -implicitDefEqProofs only [rX,↓rY,rdK,zV,aA,cells?,↓reduceIte,Nat.reduceEqDiff,reduceCtorEq,aG,dI,Nat.reduceLT,↓qbW,↓qbZ,↓qcj,Hx,bR,eE,Cz,dP,mZ,oG,dkV,dkC,iQ]
  simp only [br,decide_eq_true_eq,decide_eq_false_iff_not,bne_iff_ne,bne_eq_false_iff_eq,beq_iff_eq,beq_eq_false_iff_ne]
  refine ⟨fun h2=>?_,fun h2=>?_⟩
  ·obtain ⟨c1,c2,c3⟩:=adI h
   obtain ⟨k,rfl⟩:∃ k:Nat,i=k:=⟨i.toNat,by omega⟩
   have hk:k<S1.n:=by rw [hn1];show k<S.D.cells.length;omega
   simp only [Ii S1 hk]
   have hT1:=S1.T_len
   have hw:S.D.wrD k s=S1.D.addD k s:=by
    rw [Dk.wrD,if_neg (by rw [h];simp),if_neg (by rw [h2];simp),yaj,hS1,Ay]
   have he:S.D.wrE k=S.D.stepE:=by rw [Dk.wrE,if_neg (by rw [h];simp)]
   have hmf:=pN (p:=0) (D:=S1.D) (k:=k) (L:=S1.L) (j:=0)
   by_cases ho:S1.D.op k=[]
   ·simp only [opV,if_pos ho]
    simp -implicitDefEqProofs only [rX,↓rY,zR,↓reduceIte,Nat.reduceEqDiff,Nat.reduceAdd,aG,↓qbo,↓qbr,↓qbW,↓qcj,rW,Ba]
    have finR:∀ (e:Env) (b:Nat),get e 6=.i S.D.stepE→cE [0,1,2] (3+S.n) [d7.tmp 6] (Ia S k s) ⟨e,dkV 0 S1.D::dkC S1.D::.map (bP 0 S1.D S1.L++[(.int .i64 k,.sl ((dkT S1.D).length+5) 0 1,S1.c)]) (S1.c+1)::(dkT S1.D++[Blk.var s.enc,Blk.arr 64 [s.enc],Blk.arr 64 [s.enc]]),b⟩:=by
     intro e b h6
     rw [dW]
     simp only [a8,ybm,ybn,yaZ,bF,h6]
     refine ⟨pI S1 k s,⟨?_,⟨trivial,trivial,trivial,trivial⟩,by rw [Nd,hn1];omega,trivial,Rn⟩,.inr ⟨by rw [he],S1,k,hk,hn1,ho,hw.symm,rfl⟩⟩
     refine ⟨aO _,aO _,aO _,?_⟩
     exact Il
    rw [hmf.1 fun hm=>((S1.ok.key k).1 hm).2 ho]
    exact ⟨⟨by decide,finR _ _ rfl⟩,by decide,finR _ _ rfl⟩
   ·simp only [opV,if_neg ho]
    simp -implicitDefEqProofs only [rX,↓rY]
    obtain ⟨m,_,hm1,hm2,hm3⟩:=hmf.2 ((S1.ok.key k).2 ⟨hk,ho⟩)
    rw [Ix (by rw [S1.ok.len];exact hk) ho]
    have q3:((dkT S1.D).length+3=3+k)=False:=by rw [hT1];exact eq_false (by omega)
    have q4:((dkT S1.D).length+4=3+k)=False:=by rw [hT1];exact eq_false (by omega)
    have q3':(3+k=(dkT S1.D).length+3)=False:=by rw [hT1];exact eq_false (by omega)
    have q0:(0=3+k)=False:=eq_false (by omega)
    have q1:(1=3+k)=False:=eq_false (by omega)
    have q2:(2=3+k)=False:=eq_false (by omega)
    simp -implicitDefEqProofs only [rX,↓rY,zR,↓reduceIte,Nat.reduceEqDiff,aB,aD,kill,bK,St.kill,↓qbW,↓qcj,e6,Ag,q0,q1,q2,q3,q4,q3']
    have hkT:k<(dkT S1.D).length:=by rw [hT1];exact hk
    have ht:yah (S1.D.op k).length (yac Sec.enc (S1.D.op k))=yac Sec.enc (S1.D.op k):=yaf (by simp)
    have hmm:dA (.int .i64) (.int .i64 k) (yac (fun e=>(e.fst,kill [3+k] e.snd.fst,e.snd.snd)) (bP 0 S1.D S1.L)) 0=some (some (m,kill [3+k] (.sl (0+3+k) 0 (S1.D.op k).length))):=by
     rw [yT (f:=kill [3+k]),hm3];rfl
    have hadd:=Ut (D:=S1.D) (k:=k) (s:=s)
    have hold:=Pi (D:=S1.D) (L:=S1.L) (k:=k) (m:=m) (s:=s) (by rw [S1.ok.len];exact hk) S1.ok.nod hm2
    simp -implicitDefEqProofs only [rX,↓rY,↓reduceIte,Nat.reduceAdd,kill,St.kill,↓qcf,Ue hkT,ht,hmm,←hadd,hold]
    have hbk:=hb k
    rw [←Ra,←hS1] at hbk
    have finO:∀ (e:Env) (b:Nat) (X:List Blk),get e 6=.i S.D.stepE→cE [0,1,2] (3+S.n) [d7.tmp 6] (Ia S k s) ⟨e,dkV 0 S1.D::dkC S1.D::.map (bP 0 (S1.D.addD k s) S1.L) S1.c::(dkT (S1.D.addD k s)++X),b⟩:=by
     intro e b X h6
     exact finQ ⟨S1.D.addD k s,S1.L,S1.c,S1.ok.old hk ho⟩ e _ b _ (cX (h:=(⟨S1.D.addD k s,S1.L,S1.c,S1.ok.old hk ho⟩:MS).bs 0) (X:=X)) h6 he.symm hn1 hw.symm
    exact ⟨⟨by omega,by omega,finO _ _ _ rfl⟩,by omega,by omega,finO _ _ _ rfl⟩
  ·refine finQ S1 _ _ _ _ (cX (h:=S1.bs 0) (X:=[.var s.enc])) rfl ?_ hn1 ?_
   ·rw [Dk.wrE,if_neg (by rw [h];simp)]
   ·rw [Dk.wrD,if_neg (by rw [h];simp),if_pos h2,hS1,Ay]
 ·refine ⟨fun h2=>absurd h2 h,fun _=>finQ S _ _ _ _ (cX (h:=S.bs 0) (X:=[.var s.enc])) rfl ?_ rfl ?_⟩
  ·rw [Dk.wrE,if_pos h]
  ·rw [Dk.wrD,if_pos h]
theorem Nt {D:Dk} {L:List (Nat × Nat)} {i j:Nat} {q:List (Value × V × Nat)} (h:∀ e∈L,0+3+e.1≠j):(bP 0 D L++q).map (fun e=>(e.1,mvV i j e.2.1,e.2.2))=bP 0 D L++q.map fun e=>(e.1,mvV i j e.2.1,e.2.2):=by
 rw [yap]
 congr 1
 unfold bP
 rw [yaO]
 refine ybb fun e he=>?_
 simp only [Function.comp,mvV,if_neg (h e he)]
theorem acC {D:Dk} {i j:Nat}:(dkT D).map (mvB i j)=dkT D:=by
 simp only [dkT,yaO]
 refine ybb fun l _=>?_
 simp only [Function.comp,tW]
 split<;>rfl
theorem Wz {a b c:Blk} {D:Dk} {X:List Blk} {k:Nat} (hk:k<D.opn.length) (ho:D.op k=[]):(a::b::c::(dkT D++X))[3+k]?=some .dead:=by
 have e:D.op k=D.opn[k]:=by rw [Dk.op,yao,yak hk];rfl
 rw [show 3+k=k+3 by omega]
 show (dkT D++X)[k]?=_
 rw [yaI (by rw [pY];exact hk)]
 simp only [dkT,yaM,yak hk,ybO,tW]
 rw [if_pos (by rw [←e];exact ho)]
theorem Rm {S:MS} {k:Nat} {s:Sec} (hk:k<S.n) (ho:S.D.op k=[]) {r:V} (hr:∀ i j,mvV i j r=r) (hw:∀ h,wfV h r):leG [0,1,2] ⟨[(0,r)],pI S k s,0⟩ ⟨[(0,r)],(⟨S.D.addD k s,S.L++[(k,S.c)],S.c+1,S.ok.new hk ho⟩:MS).bs 0,0⟩:=by
 have hT:=S.T_len
 have hko:k<S.D.opn.length:=by rw [S.ok.len];exact hk
 refine ⟨_,.mv (3+k) ((dkT S.D).length+5) (.arr 64 [s.enc]) (by rw [hT];omega) (Wz hko ho) ?_ (by simp) (.refl _),?_⟩
 ·show (pI S k s)[(dkT S.D).length+5]?=_
  unfold pI
  rw [rW];rfl
 ·have e1:(pI S k s).map (mvB (3+k) ((dkT S.D).length+5))=dkV 0 S.D::dkC S.D::.map (bP 0 S.D S.L++[(.int .i64 k,.sl (3+k) 0 1,S.c)]) (S.c+1)::(dkT S.D++[.dead,.dead,.arr 64 [s.enc]]):=by
   have h1:∀ e∈S.L,0+3+e.1≠(dkT S.D).length+5:=fun e he=>by
    have:=((S.ok.key e.1).1 (ybq he)).1
    rw [hT];show _≠S.D.n+5;omega
   have n1:(1=(dkT S.D).length+5)=False:=eq_false (by omega)
   have n2:(2=(dkT S.D).length+5)=False:=eq_false (by omega)
   unfold pI
   rw [yal,yal,yal,yap,acC]
   simp only [mvB,Nt h1,dkV,dkC,mvL,mvV,n1,n2,if_false,if_true,yal,yaS]
  show leS [0,1,2] ⟨[(0,mvV _ _ r)],((((pI S k s).map (mvB (3+k) ((dkT S.D).length+5))).set (3+k) (.arr 64 [s.enc])).set ((dkT S.D).length+5) .dead),0⟩ _
  rw [e1,Ue (by rw [hT];exact hk),hr]
  have e2:bP 0 (S.D.addD k s) (S.L++[(k,S.c)])=bP 0 S.D S.L++[(.int .i64 k,.sl (3+k) 0 1,S.c)]:=by
   have h2:k∉S.L.map (·.1):=fun hm=>((S.ok.key k).1 hm).2 ho
   have h3:bP 0 (S.D.addD k s) (S.L++[(k,S.c)])=bP 0 (S.D.addD k s) S.L++bP 0 (S.D.addD k s) [(k,S.c)]:=by simp [bP]
   rw [h3,Pj hko h2]
   simp [bP,mD hko,ho]
  have e3:dkT (S.D.addD k s)=(dkT S.D).set k (.arr 64 [s.enc]):=by rw [Ut,ho];rfl
  refine ⟨⟨by simp [get],trivial⟩,?_,⟨trivial,trivial,trivial,trivial⟩,⟨hw _,trivial⟩,?_⟩
  ·have e4:(⟨S.D.addD k s,S.L++[(k,S.c)],S.c+1,S.ok.new hk ho⟩:MS).bs 0=dkV 0 S.D::dkC S.D::.map (bP 0 S.D S.L++[(.int .i64 k,.sl (3+k) 0 1,S.c)]) (S.c+1)::(dkT S.D).set k (.arr 64 [s.enc]):=by
    show dkV 0 S.D::dkC S.D::.map (bP 0 (S.D.addD k s) (S.L++[(k,S.c)])) (S.c+1)::dkT (S.D.addD k s)=_
    rw [e2,e3]
   rw [e4]
   have hl:(dkT S.D).length=((dkT S.D).set k (Blk.arr 64 [s.enc])).length:=by simp
   rw [hl]
   show leH (List.set _ _ _) _
   rw [Ba]
   exact cX (h:=dkV 0 S.D::dkC S.D::.map (bP 0 S.D S.L++[(.int .i64 k,.sl (3+k) 0 1,S.c)]) (S.c+1)::(dkT S.D).set k (.arr 64 [s.enc]))
  ·have:=(⟨S.D.addD k s,S.L++[(k,S.c)],S.c+1,S.ok.new hk ho⟩:MS).wf (p:=0) [] [] rfl (C:=[]) trivial
   simpa using this
theorem ok6 (S:MS) (i:Int) (s:Sec) (hs:S.D.steps≤1000000000000000) (ha:-1≤S.D.after∧S.D.after≤9223372036854775807) (hb:∀ k,(S.D.op k).length≤100000):OkD 6 [.ptr 0 0 0,.i i,.agg s.enc] S (fun r S'=>S'.D=S.D.wrD i s∧r=.i (S.D.wrE i)):=by
 have h:=agB S i s hs ha hb
 refine ⟨h.1,sO [0,1,2] (fun k hk hm=>?_) (fun k hk=>?_) h.2 ?_⟩
 ·rw [S.len] at hk
  have:¬(3≤k∧k<3+S.n):=fun h2=>hm (yaE.2 h2)
  have h3:k=0∨k=1∨k=2:=by omega
  rcases h3 with rfl|rfl|rfl<;>simp
 ·rw [S.len,yaE]
  simp at hk;omega
 rintro r hs (⟨S',⟨hn,hq⟩,rfl⟩|⟨hr,S1,k,hk,hn,ho,hw,rfl⟩)
 ·refine ⟨⟨trivial,trivial,trivial,trivial⟩,r,_,⟨S',⟨hn,hq⟩,rfl⟩,by rw [S.len,S'.len,hn];exact yad _,_,.refl _,?_⟩
  rw [hq.2]
  refine ⟨⟨by simp [get],trivial⟩,aF _,⟨trivial,trivial,trivial,trivial⟩,⟨trivial,trivial⟩,?_⟩
  have:=S'.wf (p:=0) [] [] rfl (C:=[]) trivial
  simpa using this
 ·refine ⟨⟨trivial,trivial,trivial,trivial⟩,r,_,⟨⟨S1.D.addD k s,S1.L++[(k,S1.c)],S1.c+1,S1.ok.new hk ho⟩,⟨hn,hw,hr⟩,rfl⟩,?_,?_⟩
  ·rw [S.len,MS.len];show 3+S.n≤3+S1.n;omega
  ·rw [hr]
   exact Rm hk ho (fun _ _=>rfl) (fun _=>trivial)
end Go.Fx.K
