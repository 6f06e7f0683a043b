import Derived.StillTail
import Derived.Deep.Quiet
import Derived.Deep.AppendSrc
import Derived.WalkKit
import Derived.ChangeArms
import Derived.ChangeSame
import Derived.Carry
import Derived.DataReads
import Derived.Deep.MidRow
import Derived.Laws.Tables
import Derived.ChangeKeysEq
import Derived.MapKept
import Derived.Maps.RangeRun
set_option linter.unusedVariables false
set_option linter.unusedSimpArgs false
set_option linter.unusedSectionVars false
open Option.some renaming injEq → yaa
open Option renaming map_eq_some_iff → yab, getD_some → yai, getD_none → yal, bind_eq_some_iff → yau, map_some → yax
open List renaming getElem?_map → yac, replicate → yad, getElem?_eq_getElem → yaf, getD_eq_getElem?_getD → yam, getElem?_eq_some_iff → yao, getElem?_set_ne → yap, take → yaq, drop → yar, getElem?_set_self → yas, getElem?_take → yaw, mapM_cons → yaA, map → yaB, length_map → yaC, mem_cons → yaD, drop_drop → yaE, getElem?_cons_zero → yaF, getElem?_drop → yaG, all_eq_true → yaI, mem_cons_of_mem → yaL, take_append_drop → yaM, getElem?_append_left → yaN, getElem?_append_right → yaO
open Nat renaming le_refl → yae, zero_add → yag, zero_le → yah, add_mul → yak, add_assoc → yan, lt_of_lt_of_le → yat, mul_le_mul_right → yaP
open BitVec renaming ofInt → yaj
open Array renaming getElem?_setIfInBounds → yav, getElem?_toList → yaz, length_toList → yaH, getElem?_modify → yaJ, getElem?_eq_some_iff → yaK, getElem?_extract → yaQ, getElem?_setIfInBounds_ne → yaR
open Bool renaming false_eq_true → yay
namespace Go.Fx
open Go
def Pf:List Nat:=[1116352408,1899447441,3049323471,3921009573,961987163,1508970993,2453635748,2870763221,3624381080,310598401,607225278,1426881987,1925078388,2162078206,2614888103,3248222580,3835390401,4022224774,264347078,604807628,770255983,1249150122,1555081692,1996064986,2554220882,2821834349,2952996808,3210313671,3336571891,3584528711,113926993,338241895,666307205,773529912,1294757372,1396182291,1695183700,1986661051,2177026350,2456956037,2730485921,2820302411,3259730800,3345764771,3516065817,3600352804,4094571909,275423344,430227734,506948616,659060556,883997877,958139571,1322822218,1537002063,1747873779,1955562222,2024104815,2227730452,2361852424,2428436474,2756734187,3204031479,3329325298]
def Ch:List Value:=Pf.map fun (n:Nat)=>.int .u32 n
def tabs:List (Nat × List Value):=[(0,Ch)]
end Go.Fx
namespace Go.Fx
inductive V where
 | any
 | v (x:Value)
 | ro (sz:Nat) (els:List (List V))
 | bro (sz:Nat) (els:List (List V))
 | full (sz:Nat) (els:List (List V))
 | sl (k i n:Nat)
 | ptr (k i f:Nat)
 | rp (sz:Nat) (els:List (List V)) (i f:Nat)
 | agg (cs:List V)
 | tup (vs:List V)
 | clo (f:FuncId) (caps:List V)
 | mp (k:Nat)
 | itr (k:Nat)
 deriving Inhabited
abbrev V.i (n:Int):V:=.v (.int .i64 n)
abbrev V.b (x:Bool):V:=.v (.bool x)
abbrev V.nil:V:=.v (.slice none 0 0)
inductive RS where
 | ghost
 | ready
 | busy
 | out (j:Option Nat)
 | gone
 deriving Inhabited,DecidableEq
inductive Blk where
 | dead
 | arr (sz:Nat) (els:List (List V))
 | var (cs:List V)
 | arv (sz:Nat) (els:List (List V))
 | map (es:List (Value × V × Nat)) (clock:Nat)
 | it (m:V) (since:Nat) (seen:List Nat) (last:Nat)
 | rcd (t:RS) (e:List (Nat × V))
 deriving Inhabited
abbrev Env:=List (Nat × V)
structure St where
 e:Env
 h:List Blk
 b:Nat:=0
def get:Env→Nat→V
 | [],_=>.any
 | (j,x)::r,i=>if i=j then x else get r i
def aA:Value→V
 | .agg cs=>.agg (cs.toList.map .v)
 | x=>.v x
def ev (e:Env):Operand→V
 | .tmp t=>get e t
 | .const c=>aA c
 | .func f=>.clo f []
 | .global _=>.any
def St.put (s:St):Option Nat→V→St
 | some d,x=>{ s with e:=(d,x)::s.e }
 | none,_=>s
def blk (h:List Blk) (k:Nat):Blk:=h.getD k .dead
def cells?:V→Option (List V)
 | .agg cs=>some cs
 | .v (.agg cs)=>some (cs.toList.map .v)
 | .v (.tuple _)=>none
 | .any=>none
 | .tup _=>none
 | x=>some [x]
def isD:V→Bool
 | .v (.agg _)=>false
 | .v (.tuple _)=>false
 | .v _=>true
 | .ro _ _=>true
 | _=>false
def isC:V→Bool
 | .v (.agg _)=>false
 | .v (.tuple _)=>false
 | .any=>false
 | .agg _=>false
 | .tup _=>false
 | .itr _=>false
 | _=>true
mutual
def kill (M:List Nat):V→V
 | .sl j i n=>if j∈M then .any else .sl j i n
 | .ptr j i f=>if j∈M then .any else .ptr j i f
 | .mp j=>if j∈M then .any else .mp j
 | .itr j=>if j∈M then .any else .itr j
 | .agg cs=>.agg (bD M cs)
 | .tup cs=>.tup (bD M cs)
 | .clo f cs=>.clo f (bD M cs)
 | x=>x
def bD (M:List Nat):List V→List V
 | []=>[]
 | x::r=>kill M x::bD M r
end
def aM (M:List Nat):Env→Env
 | []=>[]
 | (j,x)::r=>(j,kill M x)::aM M r
def aK (M:List Nat):Blk→Blk
 | .var cs=>.var (bD M cs)
 | .arv sz els=>.arv sz (els.map (bD M))
 | .map es c=>.map (es.map fun e=>(e.1,kill M e.2.1,e.2.2)) c
 | .it m s sn l=>.it (kill M m) s sn l
 | .rcd t e=>.rcd t (aM M e)
 | b=>b
def St.kill (s:St) (M:List Nat):St:={ s with e:=aM M s.e,h:=s.h.map (aK M) }
def splice (cs:List V) (f:Nat) (new:List V):List V:=cs.take f++new++cs.drop (f+new.length)
def lo:IntKind→Int
 | .i8=>-128|.i16=>-32768|.i32=>-2147483648|.i64=>-9223372036854775808
 | _=>0
def hi:IntKind→Int
 | .i8=>127|.i16=>32767|.i32=>2147483647|.i64=>9223372036854775807
 | .u8=>255|.u16=>65535|.u32=>4294967295|.u64=>18446744073709551615
inductive Zp where
 | pidx (n sz:Nat)
 | pslc (n:Nat) (lo hi mx:Bool)
 | peq (neg:Bool)
 | aidx (n sz:Nat) (row:Bool)
 | aeq (neg:Bool) (ks:List (Nat × TypeDesc))
 | sidx
 | sslc (lo hi:Bool)
 | sbin (op:BinOp)
 | mm (mx:Bool)
 | gidx (g n:Nat)
 | s2a (n:Nat)
 | cpl
 deriving Inhabited
inductive Eff where
 | clr (sz:Nat) (z:List Value)
 | look (ks:List (Nat × TypeDesc)) (z:Value) (ok:Bool)
 | mset (ks:List (Nat × TypeDesc))
 | b2s
 | litv (sz n:Nat) (z:List Value) (ix:List Nat)
 | appv (sz bytes:Nat)
 | gload (g n:Nat)
 | cps
 | aps (bytes:Nat)
 deriving Inhabited
inductive LOp where
 | mov (x:Operand)
 | pick (c a b:Operand)
 | box (j:Nat) (x:Operand)
 | alloc (j:Nat) (z:Value)
 | load (n:Option Nat) (a:Operand)
 | store (n:Nat) (a x:Operand)
 | nilc (x:Operand)
 | fld (off:Nat) (x:Operand)
 | idx (sz:Nat) (x i:Operand)
 | field (off:Nat) (n:Option Nat) (x:Operand)
 | bin (op:BinOp) (ex:Bool) (x y:Operand)
 | eqb (neg:Bool) (x y:Operand)
 | eqf (neg:Bool) (ks:List (Nat × TypeDesc)) (x y:Operand)
 | eqn (neg:Bool) (x y:Operand)
 | not (x:Operand)
 | neg (x:Operand)
 | conv (ex:Bool) (k:IntKind) (x:Operand)
 | len (x:Operand)
 | lens (x:Operand)
 | mk (j:Nat) (sz bytes:Nat) (z:List Value) (l c:Operand)
 | mkv (j:Nat) (sz bytes:Nat) (z:List Value) (l c:Operand)
 | mkmap (j:Nat) (r:Option Operand)
 | lookup (kd:TypeDesc) (z:Value) (ok:Bool) (m k:Operand)
 | mset (kd:TypeDesc) (m k x:Operand)
 | mdel (kd:TypeDesc) (m k:Operand)
 | mlen (m:Operand)
 | range (j:Nat) (m:Operand)
 | next (i:Operand)
 | entry (i:Operand)
 | slice (sz:Nat) (x:Operand) (l h m:Option Operand)
 | append (j:Nat) (sz bytes:Nat) (x y:Operand)
 | copy (sz:Nat) (x y:Operand)
 | minmax (mx:Bool) (x y:Operand)
 | build (z:List Value) (ps:List (Nat × Nat × Operand))
 | lits (j:Nat) (sz n:Nat) (z:List Value) (ps:List (Nat × Operand))
 | litsf (xs:List Nat) (j:Nat) (sz n:Nat) (z:List Value) (ps:List (Nat × Operand))
 | call (f:FuncId) (xs:List Operand)
 | callv (f:Operand) (xs:List Operand)
 | ext (x:Operand) (i:Nat)
 | fn (f:FuncId) (caps:List Operand)
 | iface (t:TypeId) (x:Operand)
 | panic
 | shift (op:BinOp) (x y:Operand)
 | yld (f:Operand) (xs:List Operand)
 | prim (p:Zp) (xs:List Operand)
 | eff (p:Eff) (j:Nat) (xs:List Operand)
 | bad
 deriving Inhabited
structure aH where
 dst:Option Nat
 op:LOp
 g:Option (Nat × Bool):=none
 deriving Inhabited
inductive LPlan where
 | done
 | take (i:Nat) (D:List Nat) (o:aH) (p:LPlan)
 | alt (i:Nat) (o:aH) (r:Bool) (p q:LPlan)
 | none
 deriving Inhabited
inductive LCode where
 | skip
 | reg (n:Nat) (ops:List aH)
 | tail (m n:Nat) (ops:List aH)
 | qui (n:Nat) (ops:List aH)
 | tree (n:Nat) (p:LPlan)
 | seq (a b:LCode)
 | cond (c:Operand) (a b:LCode)
 | block (id:Nat) (c:LCode)
 | loop (c:LCode)
 | exit (id:Nat)
 | ret
 | bad
 | frz (xs:List Nat) (c:LCode)
 | yreg (m n:Nat) (ops:List aH)
 | rfn (g:Operand) (ps:List Nat) (asg body:LCode)
 | ytree (n:Nat) (p:LPlan) (m:Nat) (ops:List aH)
 deriving Inhabited
def br (t:Bool) (A B:Prop):Prop:=(t=true→A)∧(t=false→B)
def brV (c:V) (A B:Prop):Prop :=
 match c with
 | .v (.bool t)=>br t A B
 | _=>False
def cW {α:Type} (o:Option α) (K:α→Prop):Prop :=
 match o with
 | some x=>K x
 | none=>False
def cE (x:V) (K:IntKind→Int→Prop):Prop :=
 match x with
 | .v (.int k a)=>K k a
 | _=>False
def cK (op:BinOp) (ex:Bool) (k:IntKind) (a b:Int) (K:V→Prop):Prop :=
 match op with
 | .add=>if ex then (lo k≤a+b∧a+b≤hi k)∧K (.v (.int k (a+b))) else K (.v (.int k (k.wrap (a+b))))
 | .sub=>if ex then (lo k≤a-b∧a-b≤hi k)∧K (.v (.int k (a-b))) else K (.v (.int k (k.wrap (a-b))))
 | .mul=>if ex then (lo k≤a*b∧a*b≤hi k)∧K (.v (.int k (a*b))) else K (.v (.int k (k.wrap (a*b))))
 | .eql=>K (.b (a==b))
 | .neq=>K (.b (a != b))
 | .lss=>K (.b (decide (a<b)))
 | .leq=>K (.b (decide (a≤b)))
 | .gtr=>K (.b (decide (b<a)))
 | .geq=>K (.b (decide (b≤a)))
 | .quo=>b≠0∧(if ex then (lo k≤a.tdiv b∧a.tdiv b≤hi k)∧K (.v (.int k (a.tdiv b))) else K (.v (.int k (k.wrap (a.tdiv b)))))
 | .rem=>b≠0∧K (.v (.int k (a.tmod b)))
 | .and=>K (.v (.int k (k.wrap ((yaj k.bits a &&& yaj k.bits b).toNat:Int))))
 | .or=>K (.v (.int k (k.wrap ((yaj k.bits a ||| yaj k.bits b).toNat:Int))))
 | .xor=>K (.v (.int k (k.wrap ((yaj k.bits a ^^^ yaj k.bits b).toNat:Int))))
 | .andNot=>K (.v (.int k (k.wrap ((yaj k.bits a &&& ~~~(yaj k.bits b)).toNat:Int))))
 | _=>False
def cL (op:BinOp) (k:IntKind) (a b:Int) (K:V→Prop):Prop :=
 match op with
 | .shl=>0≤b∧K (.v (.int k (k.wrap (a*2 ^ (min b.toNat k.bits)))))
 | .shr=>0≤b∧K (.v (.int k (a.fdiv (2 ^ (min b.toNat k.bits)))))
 | _=>False
abbrev Ctr:=FuncId→List V→List Blk→List Nat→(V→List Blk→Prop)→Prop
abbrev Yt:=List V→St→(V→St→Prop)→Prop
abbrev Itr:=FuncId→List V→List Nat→Nat→Yt→List Blk→(List Blk→Prop)→Prop
structure Cx where
 C:Ctr
 fx:List Nat
 bn:List Nat:=[]
 it:Itr:=fun _ _ _ _ _ _ _=>False
 y:Nat→Yt:=fun _ _ _ _=>False
 rk:Option Nat:=none
def pos:List Nat→Nat→Option Nat
 | [],_=>none
 | x::r,k=>if k=x then some 0 else (pos r k).map (·+1)
mutual
def ren (g:Nat→Option Nat):V→V
 | .sl k i n=>match g k with
  | some j=>.sl j i n
  | none=>.any
 | .ptr k i f=>match g k with
  | some j=>.ptr j i f
  | none=>.any
 | .mp k=>match g k with
  | some j=>.mp j
  | none=>.any
 | .itr _=>.any
 | .bro _ _=>.any
 | .full _ _=>.any
 | .rp _ _ _ _=>.any
 | .agg cs=>.agg (bZ g cs)
 | .tup cs=>.tup (bZ g cs)
 | .clo f cs=>.clo f (bZ g cs)
 | .any=>.any
 | .v x=>.v x
 | .ro sz els=>.ro sz els
def bZ (g:Nat→Option Nat):List V→List V
 | []=>[]
 | x::r=>ren g x::bZ g r
end
mutual
def a6 (h:List Blk) (g:Nat→Option Nat):V→V
 | .sl k i n=>match g k with
  | some j=>.sl j i n
  | none=>match blk h k with
   | .arr sz els=>.bro sz ((els.drop i).take n)
   | .var cs=>if (decide (i+n≤cs.length)&&((cs.drop i).take n).all isD)=true then .bro 1 (((cs.drop i).take n).map fun c=>[c]) else .any
   | _=>.any
 | .ptr k i f=>match g k with
  | some j=>.ptr j i f
  | none=>.any
 | .mp k=>match g k with
  | some j=>.mp j
  | none=>.any
 | .itr _=>.any
 | .agg cs=>.agg (aL h g cs)
 | .tup cs=>.tup (aL h g cs)
 | .clo f cs=>.clo f (aL h g cs)
 | .any=>.any
 | .v x=>.v x
 | .ro sz els=>.ro sz els
 | .bro sz els=>.bro sz els
 | .full sz els=>.full sz els
 | .rp sz els i f=>.rp sz els i f
def aL (h:List Blk) (g:Nat→Option Nat):List V→List V
 | []=>[]
 | x::r=>a6 h g x::aL h g r
end
mutual
def aG (h:List Blk) (g:Nat→Option Nat):V→Prop
 | .sl k i n=>match g k with
  | some _=>True
  | none=>match blk h k with
   | .arr _ els=>i+n≤els.length
   | _=>True
 | .agg cs=>aE h g cs
 | .tup cs=>aE h g cs
 | .clo _ cs=>aE h g cs
 | _=>True
def aE (h:List Blk) (g:Nat→Option Nat):List V→Prop
 | []=>True
 | x::r=>aG h g x∧aE h g r
end
def Vx (g:Nat→Option Nat):Env→Env
 | []=>[]
 | (j,x)::r=>(j,ren g x)::Vx g r
def bA (g:Nat→Option Nat):Blk→Blk
 | .var cs=>.var (bZ g cs)
 | .arr sz els=>.arr sz els
 | .dead=>.dead
 | .arv sz els=>.arv sz (els.map (bZ g))
 | .map es c=>.map (es.map fun e=>(e.1,ren g e.2.1,e.2.2)) c
 | .it m s sn l=>.it (ren g m) s sn l
 | .rcd t e=>.rcd t (Vx g e)
def wkB (x:V) (s:Nat) (e:List (List V)):Prop :=
 match x with
 | .bro s' e'=>s'=s∧e'=e
 | .ro s' e'=>s'=s∧e'=e
 | .full s' e'=>s'=s∧e'=e
 | .v (.slice none 0 0)=>e=[]
 | _=>False
def wkR (x:V) (s:Nat) (e:List (List V)):Prop :=
 match x with
 | .ro s' e'=>s'=s∧e'=e
 | .v (.slice none 0 0)=>e=[]
 | _=>False
mutual
def wk:V→V→Prop
 | .any,_=>True
 | .bro s e,x=>wkB x s e
 | .ro s e,x=>wkR x s e
 | .agg ys,.agg xs=>wkL ys xs
 | .tup ys,.tup xs=>wkL ys xs
 | .clo f ys,.clo g xs=>g=f∧wkL ys xs
 | .agg _,_=>False
 | .tup _,_=>False
 | .clo _ _,_=>False
 | .v y,x=>x=.v y
 | .full s e,x=>x=.full s e
 | .sl k i n,x=>x=.sl k i n
 | .ptr k i f,x=>x=.ptr k i f
 | .rp s e i f,x=>x=.rp s e i f
 | .mp k,x=>x=.mp k
 | .itr k,x=>x=.itr k
def wkL:List V→List V→Prop
 | [],[]=>True
 | y::ys,x::xs=>wk y x∧wkL ys xs
 | _,_=>False
end
def back (ι:List Nat) (n:Nat) (j:Nat):Option Nat :=
 match ι[j]? with
 | some k=>some k
 | none=>some (n+(j-ι.length))
def aN:List Nat→List Blk→List Blk→List Blk
 | k::ι,b::bs,h=>aN ι bs (h.set k b)
 | [],bs,h=>h++bs
 | _::_,[],h=>h
def aC (h:List Blk) (k:Nat):Prop :=
 match h[k]? with
 | some .dead=>False
 | some _=>True
 | none=>False
def aD:List Nat→List Blk→Prop
 | [],_=>True
 | k::r,h=>aC h k∧aD r h
def aR (cx:Cx) (f:FuncId) (args:List V) (s:St) (K:V→St→Prop):Prop :=
 ∃ (ι:List Nat) (zas:List V) (mv:List Nat) (R:V→List Blk→Prop),
  ((ι.Nodup∧∀ k∈ι,k<s.h.length∧k∉cx.bn)∧(∀ j∈mv,∀ k,ι[j]?=some k→k∉cx.fx)) ∧
  aE s.h (pos ι) args∧wkL zas (aL s.h (pos ι) args) ∧
  cx.C f zas (ι.map fun k=>bA (pos ι) (blk s.h k)) mv R ∧
  ∀ r h',R r h'→ι.length≤h'.length →
   aD cx.fx (aN ι (h'.map (bA (back ι s.h.length))) (s.h.map (aK (mv.filterMap (ι[·]?))))) ∧
   K (ren (back ι s.h.length) r)
    { s with e:=aM (mv.filterMap (ι[·]?)) s.e,h:=aN ι (h'.map (bA (back ι s.h.length))) (s.h.map (aK (mv.filterMap (ι[·]?)))) }
def bX (n:Option Nat) (f:Nat) (cs:List V) (K:V→Prop):Prop :=
 match n with
 | none=>cW cs[f]? K
 | some m=>f+m≤cs.length∧K (.agg ((cs.drop f).take m))
def pQ (n:Option Nat) (i f:Nat) (b:Blk) (K:V→Prop):Prop :=
 match b with
 | .var cs=>bX n (i+f) cs K
 | .arr _ els=>∃ hi:i<els.length,bX n f (els[i]'hi) K
 | .arv _ els=>∃ hi:i<els.length,bX n f (els[i]'hi) K
 | _=>False
def hJ (h:List Blk) (n:Option Nat) (p:V) (K:V→Prop):Prop :=
 match p with
 | .ptr k i f=>pQ n i f (blk h k) K
 | .rp _ els i f=>∃ hi:i<els.length,bX n f (els[i]'hi) K
 | _=>False
def o0 (n:Nat) (i f:Nat) (cs:List V) (b:Blk) (K:Blk→Prop):Prop :=
 match b with
 | .var old=>(i+f+n≤old.length)∧K (.var (splice old (i+f) cs))
 | .arr sz els=>(f+n≤sz∧cs.all isD=true)∧∃ hi:i<els.length,K (.arr sz (els.set i (splice (els[i]'hi) f cs)))
 | .arv sz els=>(f+n≤sz)∧∃ hi:i<els.length,K (.arv sz (els.set i (splice (els[i]'hi) f cs)))
 | _=>False
def y9 (bn:List Nat) (h:List Blk) (n:Nat) (p:V) (cs:List V) (K:List Blk→Prop):Prop :=
 match p with
 | .ptr k i f=>(cs.length=n∧k∉bn)∧cs.all isC=true∧o0 n i f cs (blk h k) fun b=>K (h.set k b)
 | _=>False
def Ha (off:Nat) (x:V) (K:V→Prop):Prop :=
 match x with
 | .ptr k i f=>K (.ptr k i (f+off))
 | .rp sz els i f=>K (.rp sz els i (f+off))
 | _=>False
def dB (z:Nat) (b:Blk):Prop :=
 match b with
 | .arr s _=>s=z
 | .arv s _=>s=z
 | .var _=>1=z
 | _=>False
def Fk (h:List Blk) (z:Nat) (n:Int) (x:V) (K:V→Prop):Prop :=
 match x with
 | .sl k i0 m=>dB z (blk h k)∧(0≤n∧n<m)∧K (.ptr k (i0+n.toNat) 0)
 | .ro sz els=>sz=z∧(0≤n∧n<els.length)∧K (.rp sz els n.toNat 0)
 | .bro sz els=>sz=z∧(0≤n∧n<els.length)∧K (.rp sz els n.toNat 0)
 | .full sz els=>sz=z∧(0≤n∧n<els.length)∧K (.rp sz els n.toNat 0)
 | _=>False
def Fa (x:V) (K:V→Prop):Prop :=
 match x with
 | .sl _ _ n=>n≤maxLen→K (.i n)
 | .ro _ els=>els.length≤maxLen→K (.i els.length)
 | .bro _ els=>els.length≤maxLen→K (.i els.length)
 | .full _ els=>els.length≤maxLen→K (.i els.length)
 | .v (.slice none 0 0)=>K (.i 0)
 | _=>False
def Ie (x:V) (K:V→Prop):Prop :=
 match x with
 | .v (.string t)=>K (.i t.size)
 | _=>False
def rJ (x:V) (K:Bool→Prop):Prop :=
 match x with
 | .v (.bool t)=>K t
 | _=>False
def iG (h:List Blk) (x:V) (K:Nat→List (List V)→Prop):Prop :=
 match x with
 | .sl k i n=>match blk h k with
  | .arr sz els=>i+n≤els.length∧K sz ((els.drop i).take n)
  | .var cs=>(i+n≤cs.length∧((cs.drop i).take n).all isD=true)∧K 1 (((cs.drop i).take n).map fun c=>[c])
  | _=>False
 | .ro sz els=>K sz els
 | .bro sz els=>K sz els
 | .full sz els=>K sz els
 | .v (.slice none 0 0)=>K 0 []
 | _=>False
def Al (o:Option V) (K:Option Int→Prop):Prop :=
 match o with
 | none=>K none
 | some (.v (.int _ n))=>K (some n)
 | some _=>False
def bN (n:Nat) (l u m:Option Int):Prop :=
 (0≤l.getD 0∧l.getD 0≤u.getD n)∧u.getD n≤m.getD n∧m.getD n≤n
def roF (z:Nat) (u m:Option Int) (n:Nat) (xs:List (List V)):V :=
 match m with
 | none=>.ro z xs
 | some c=>if u=some c∧c=(n:Int) then .full z xs else .ro z xs
def Cj (z:Nat) (u m:Option Int) (n:Nat) (xs:List (List V)):V :=
 match m with
 | none=>.bro z xs
 | some c=>if u=some c∧c=(n:Int) then .full z xs else .bro z xs
def z7 (h:List Blk) (z:Nat) (x:V) (l u m:Option Int) (K:V→Prop):Prop :=
 match x with
 | .sl k i n=>dB z (blk h k)∧bN n l u m∧K (.sl k (i+(l.getD 0).toNat) ((u.getD n).toNat-(l.getD 0).toNat))
 | .ro sz els=>sz=z∧bN els.length l u m∧K (roF sz u m els.length ((els.drop (l.getD 0).toNat).take ((u.getD els.length).toNat-(l.getD 0).toNat)))
 | .bro sz els=>sz=z∧bN els.length l u m∧K (Cj sz u m els.length ((els.drop (l.getD 0).toNat).take ((u.getD els.length).toNat-(l.getD 0).toNat)))
 | .full sz els=>sz=z∧bN els.length l u m∧K (.bro sz ((els.drop (l.getD 0).toNat).take ((u.getD els.length).toNat-(l.getD 0).toNat)))
 | .v (.slice none 0 0)=>bN 0 l u m∧K (.v (.slice none 0 0))
 | _=>False
def bJ (e:Env):List V→List (Nat × Nat × Operand)→(V→Prop)→Prop
 | acc,[],K=>K (.agg acc)
 | acc,(off,sz,x)::r,K=>cW (cells? (ev e x)) fun cs=>(cs.length=sz∧off+sz≤acc.length)∧bJ e (splice acc off cs) r K
def bR (e:Env) (sz:Nat):List (List V)→List (Nat × Operand)→(List (List V)→Prop)→Prop
 | acc,[],K=>K acc
 | acc,(i,x)::r,K=>cW (cells? (ev e x)) fun cs=>((cs.length=sz∧i<acc.length)∧cs.all isD=true)∧bR e sz (acc.set i cs) r K
def He (x:V) (K:List V→Prop):Prop :=
 match x with
 | .agg cs=>K cs
 | _=>False
def Hb (x:V) (K:Bool→Prop):Prop :=
 match x with
 | .sl _ _ n=>(0<n→K false)∧(n=0→K true∧K false)
 | .ro _ els=>(els≠[]→K false)∧(els=[]→K true∧K false)
 | .bro _ els=>(els≠[]→K false)∧(els=[]→K true∧K false)
 | .v (.slice none 0 0)=>K true
 | _=>False
def aF (h:List Blk) (k:Nat):Prop :=
 match h[k]? with
 | some .dead=>True
 | _=>False
def rM (id sz bytes:Nat) (s:St) (old new:List (List V)) (K:V→St→Prop):Prop :=
 (old.length+new.length)*bytes≤140737488355328∧aF s.h id∧K (.sl id 0 (old.length+new.length)) { s with h:=s.h.set id (.arr sz (old++new)) }
def Pw (fx bn:List Nat) (k i n sz bytes:Nat) (s:St) (new:List (List V)) (b:Blk) (K:V→St→Prop):Prop :=
 match b with
 | .arr sz' els=>(sz'=sz∧i+n≤els.length∧(n+new.length)*bytes≤140737488355328)∧(k∉fx∧k∉bn) ∧
   K (.sl k 0 (n+new.length)) { s with e:=aM [k] s.e,h:=(s.h.map (aK [k])).set k (.arr sz ((els.drop i).take n++new)) }
 | _=>False
def Cm (fx bn:List Nat) (id sz bytes:Nat) (s:St) (x:V) (new:List (List V)) (K:V→St→Prop):Prop :=
 match x with
 | .sl k i n=>Pw fx bn k i n sz bytes s new (blk s.h k) K
 | .v (.slice none 0 0)=>rM id sz bytes s [] new K
 | .full sz' els=>(sz'=sz∧new≠[])∧rM id sz bytes s els new K
 | _=>False
def Bt (bn:List Nat) (k i n sz:Nat) (s:St) (new:List (List V)) (b:Blk) (K:V→St→Prop):Prop :=
 match b with
 | .var cs=>(1=sz∧i+n≤cs.length∧k∉bn) ∧
   K (.i (min new.length n:Nat)) { s with h:=s.h.set k (.var (splice cs i (new.take n).flatten)) }
 | .arr sz' els=>(sz'=sz∧i+n≤els.length∧k∉bn) ∧
   K (.i (min new.length n:Nat)) { s with h:=s.h.set k (.arr sz (els.take i++new.take n++els.drop (i+min new.length n))) }
 | _=>False
def uE (bn:List Nat) (sz:Nat) (s:St) (x:V) (new:List (List V)) (K:V→St→Prop):Prop :=
 match x with
 | .sl k i n=>Bt bn k i n sz s new (blk s.h k) K
 | _=>False
def dF (kd:TypeDesc) (key:Value):List (Value × V × Nat)→Nat→Option (Option (Nat × V))
 | [],_=>some none
 | e::es,i =>
  match Instr.sameNow kd key e.1 with
  | some true=>some (some (i,e.2.1))
  | some false=>dF kd key es (i+1)
  | none=>none
def isKey:TypeDesc→Value→Bool
 | .bool,.bool _=>true
 | .int k,.int k' _=>decide (k'=k)
 | .string,.string _=>true
 | _,_=>false
def Ff (kd:TypeDesc) (x:V) (K:Value→Prop):Prop :=
 match x with
 | .v y=>isKey kd y=true∧K y
 | _=>False
def eqK:Value→Value→Bool
 | .int _ a,.int _ b=>a==b
 | .bool a,.bool b=>a==b
 | .string a,.string b=>a==b
 | _,_=>false
def mP:V→Option (List V)
 | .agg cs=>some cs
 | .v (.agg a)=>some (a.toList.map .v)
 | _=>none
def eqC (kd:TypeDesc) (x y:Option V) (K:Bool→Prop):Prop :=
 match x,y with
 | some (.v a),some (.v b)=>(isKey kd a=true∧isKey kd b=true)∧K (eqK a b)
 | _,_=>False
def dU (xs ys:List V):List (Nat × TypeDesc)→(Bool→Prop)→Prop
 | [],K=>K true
 | f::r,K=>eqC f.2 xs[f.1]? ys[f.1]? fun t=>dU xs ys r fun u=>K (t&&u)
def Ms (b:Blk) (K:List (Value × V × Nat)→Nat→Prop):Prop :=
 match b with
 | .map es c=>K es c
 | _=>False
def iM (h:List Blk) (x:V) (K:Nat→List (Value × V × Nat)→Nat→Prop):Prop :=
 match x with
 | .mp k=>Ms (blk h k) (K k)
 | _=>False
def eF (r:Option (Option (Nat × V))) (z:Value) (ok:Bool) (K:V→Prop):Prop :=
 match r with
 | some (some (_,v))=>K (if ok then .tup [v,.b true] else v)
 | some none=>K (if ok then .tup [aA z,.b false] else aA z)
 | none=>False
def gZ (r:Option (Option (Nat × V))) (key:Value) (x:V) (es:List (Value × V × Nat)) (c:Nat) (K:Blk→Prop):Prop :=
 match r with
 | some (some (i,_))=>K (.map (es.modify i fun e=>(key,x,e.2.2)) c)
 | some none=>K (.map (es++[(key,x,c)]) (c+1))
 | none=>False
def Ic (r:Option (Option (Nat × V))) (es:List (Value × V × Nat)) (c:Nat) (K:Blk→Prop):Prop :=
 match r with
 | some (some (i,_))=>K (.map (es.eraseIdx i) c)
 | some none=>K (.map es c)
 | none=>False
def itB (b:Blk) (K:V→Nat→List Nat→Nat→Prop):Prop :=
 match b with
 | .it m since seen last=>K m since seen last
 | _=>False
def itK (h:List Blk) (x:V) (K:Nat→V→Nat→List Nat→Nat→Prop):Prop :=
 match x with
 | .ptr k 0 0=>itB (blk h k) (K k)
 | _=>False
def Mo (es:List (Value × V × Nat)) (since:Nat) (seen:List Nat) (last:Nat) (D:Prop) (K:Value→V→Nat→Prop):Prop :=
 ((es.all fun e=>decide (e.2.2<since))=true∧since≤last) ∧
 ((es.all fun e=>seen.contains e.2.2)=true→D) ∧
 (∀ e∈es,(seen.contains e.2.2)=false→K e.1 e.2.1 e.2.2)
def To (r:Option (Value × V × Nat)) (K:V→Prop):Prop :=
 match r with
 | some e=>K (.tup [.v e.1,e.2.1])
 | none=>False
mutual
def gK (k sz:Nat) (els:List (List V)):V→V
 | .sl j i n=>if j=k then (if i+n≤els.length then .ro sz ((els.drop i).take n) else .any) else .sl j i n
 | .ptr j i f=>if j=k then .any else .ptr j i f
 | .mp j=>if j=k then .any else .mp j
 | .itr j=>if j=k then .any else .itr j
 | .agg cs=>.agg (oH k sz els cs)
 | .tup cs=>.tup (oH k sz els cs)
 | .clo f cs=>.clo f (oH k sz els cs)
 | x=>x
def oH (k sz:Nat) (els:List (List V)):List V→List V
 | []=>[]
 | x::r=>gK k sz els x::oH k sz els r
end
def pW (k sz:Nat) (els:List (List V)):Env→Env
 | []=>[]
 | (j,x)::r=>(j,gK k sz els x)::pW k sz els r
def lI (k sz:Nat) (els:List (List V)):Blk→Blk
 | .var cs=>.var (oH k sz els cs)
 | .arv s es=>.arv s (es.map (oH k sz els))
 | .map es c=>.map (es.map fun e=>(e.1,gK k sz els e.2.1,e.2.2)) c
 | .it m s sn l=>.it (gK k sz els m) s sn l
 | .rcd t e=>.rcd t (pW k sz els e)
 | b=>b
def Kr (fx:List Nat) (k:Nat) (b:Blk) (s:St) (K:St→Prop):Prop :=
 match b with
 | .arr sz els=>k∉fx∧K { s with e:=pW k sz els s.e,h:=(s.h.map (lI k sz els)).set k .dead }
 | _=>K s
def pV (fx:List Nat):List Nat→St→(St→Prop)→Prop
 | [],s,K=>K s
 | x::r,s,K=>match get s.e x with
  | .sl k _ _=>Kr fx k (blk s.h k) s fun s'=>pV fx r s' K
  | _=>pV fx r s K
mutual
def gvV (M:Nat→Bool) (h:List Blk):V→V
 | .sl j i n=>if M j then (match blk h j with
  | .arr sz els=>if i+n≤els.length then .ro sz ((els.drop i).take n) else .any
  | _=>.any) else .sl j i n
 | .ptr j i f=>if M j then .any else .ptr j i f
 | .mp j=>if M j then .any else .mp j
 | .itr j=>if M j then .any else .itr j
 | .agg cs=>.agg (gvL M h cs)
 | .tup cs=>.tup (gvL M h cs)
 | .clo f cs=>.clo f (gvL M h cs)
 | x=>x
def gvL (M:Nat→Bool) (h:List Blk):List V→List V
 | []=>[]
 | x::r=>gvV M h x::gvL M h r
end
def gvE (M:Nat→Bool) (h:List Blk):Env→Env
 | []=>[]
 | (j,x)::r=>(j,gvV M h x)::gvE M h r
def gvB (M:Nat→Bool) (h:List Blk):Blk→Blk
 | .var cs=>.var (gvL M h cs)
 | .arv s es=>.arv s (es.map (gvL M h))
 | .map es c=>.map (es.map fun e=>(e.1,gvV M h e.2.1,e.2.2)) c
 | .it m s sn l=>.it (gvV M h m) s sn l
 | .rcd t e=>.rcd t (gvE M h e)
 | b=>b
def gvH (M:Nat→Bool) (h:List Blk):Nat→List Blk→List Blk
 | _,[]=>[]
 | k,b::r=>(if M k then .dead else gvB M h b)::gvH M h (k+1) r
def St.give (M:Nat→Bool) (s:St):St:={ s with e:=gvE M s.h s.e,h:=gvH M s.h 0 s.h }
def Ho (n k i:Nat) (b:Blk) (l u m:Option Int) (K:V→Prop):Prop :=
 match b with
 | .var cs=>(i+n≤cs.length∧bN n l u m)∧K (.sl k (i+(l.getD 0).toNat) ((u.getD n).toNat-(l.getD 0).toNat))
 | _=>False
def gG (h:List Blk) (n:Nat) (x:V) (l u m:Option Int) (K:V→Prop):Prop :=
 match x with
 | .ptr k i f=>Ho n k (i+f) (blk h k) l u m K
 | .rp _ els i f=>bN n l u m∧∃ hi:i<els.length,f+n≤(els[i]'hi).length ∧
   K (.bro 1 (((((els[i]'hi).drop f).drop (l.getD 0).toNat).take ((u.getD n).toNat-(l.getD 0).toNat)).map fun c=>[c]))
 | _=>False
def iA (x:V) (K:ByteArray→Prop):Prop :=
 match x with
 | .v (.string t)=>K t
 | _=>False
def Gz (x y:V) (K:Bool→Prop):Prop :=
 match y with
 | .v (.pointer none)=>match x with
  | .v (.pointer none)=>K true
  | .ptr _ _ _=>K false
  | .rp _ _ _ _=>K false
  | _=>False
 | _=>False
def pP (t:ByteArray) (l u:Option Int) (K:V→Prop):Prop :=
 bN t.size l u none∧K (.v (.string (t.extract (l.getD 0).toNat (u.getD t.size).toNat)))
def nS (op:BinOp) (t u:ByteArray) (K:V→Prop):Prop :=
 match op with
 | .add=>t.size+u.size≤9223372036854775807∧K (.v (.string (t++u)))
 | .eql=>K (.b (t.toList==u.toList))
 | .neq=>K (.b (!(t.toList==u.toList)))
 | .lss=>K (.b (Op.bytesLess t.toList u.toList))
 | .leq=>K (.b (Op.bytesLess t.toList u.toList||t.toList==u.toList))
 | .gtr=>K (.b (!(Op.bytesLess t.toList u.toList||t.toList==u.toList)))
 | .geq=>K (.b (!(Op.bytesLess t.toList u.toList)))
 | _=>False
def mmP (mx:Bool):V→List V→(V→Prop)→Prop
 | x,[],K=>K x
 | x,y::r,K=>cE x fun k a=>cE y fun k' b=>k'=k∧mmP mx (.v (.int k (if mx then max a b else min a b))) r K
def Lv (g n:Nat):Option (List Value) :=
 match tabs.find? (fun p=>p.1==g) with
 | some p=>if p.2.length=n∧p.2.all (fun v=>isD (.v v))=true then some p.2 else none
 | none=>none
def Oi (n:Nat) (x:V) (K:V→Prop):Prop :=
 match x with
 | .sl k i m=>(0<n∧n≤m)∧K (.ptr k i 0)
 | _=>False
def eM (s:ByteArray):List (List V):=s.data.toList.map fun b=>[V.v (.int .u8 b.toNat)]
def akQ (h:List Blk) (p:Zp) (xs:List V) (K:V→Prop):Prop :=
 match p,xs with
 | .pidx n sz,[x,i]=>cE i fun _ j=>(0≤j∧j<n)∧Ha (j.toNat*sz) x K
 | .pslc n false false false,[x]=>gG h n x none none none K
 | .pslc n true false false,[x,l]=>cE l fun _ l=>gG h n x (some l) none none K
 | .pslc n false true false,[x,u]=>cE u fun _ u=>gG h n x none (some u) none K
 | .pslc n true true false,[x,l,u]=>cE l fun _ l=>cE u fun _ u=>gG h n x (some l) (some u) none K
 | .pslc n false true true,[x,u,m]=>cE u fun _ u=>cE m fun _ m=>gG h n x none (some u) (some m) K
 | .pslc n true true true,[x,l,u,m]=>cE l fun _ l=>cE u fun _ u=>cE m fun _ m=>gG h n x (some l) (some u) (some m) K
 | .peq neg,[x,y]=>Gz x y fun t=>K (.b (if neg then !t else t))
 | .aidx n sz row,[x,i]=>cE i fun _ j=>(0≤j∧j<n)∧He x fun cs=>bX (if row then some sz else none) (j.toNat*sz) cs K
 | .aeq neg ks,[x,y]=>cW (mP x) fun xs=>cW (mP y) fun ys=>dU xs ys ks fun t=>K (.b (if neg then !t else t))
 | .sidx,[x,i]=>iA x fun t=>cE i fun _ j=>0≤j∧cW t[j.toNat]? fun b=>K (.v (.int .u8 b.toNat))
 | .sslc false false,[x]=>iA x fun t=>pP t none none K
 | .sslc true false,[x,l]=>iA x fun t=>cE l fun _ l=>pP t (some l) none K
 | .sslc false true,[x,u]=>iA x fun t=>cE u fun _ u=>pP t none (some u) K
 | .sslc true true,[x,l,u]=>iA x fun t=>cE l fun _ l=>cE u fun _ u=>pP t (some l) (some u) K
 | .sbin op,[x,y]=>iA x fun t=>iA y fun u=>nS op t u K
 | .mm mx,x::r=>mmP mx x r K
 | .gidx g n,[i]=>cE i fun _ j=>(0≤j∧j<n)∧cW (Lv g n) fun cs=>K (.rp 1 (cs.map fun v=>[.v v]) j.toNat 0)
 | .s2a n,[x]=>Oi n x K
 | .cpl,[x]=>cE x fun k j=>cK .xor false k (if k.signed then -1 else k.max) j K
 | _,_=>False
def bytesOf:List (List V)→Option (List UInt8)
 | []=>some []
 | [.v (.int .u8 n)]::r=>(bytesOf r).map (UInt8.ofNat n.toNat::·)
 | _::_=>none
def Ts (bn:List Nat) (k i n sz:Nat) (z:List Value) (s:St) (b:Blk) (K:V→St→Prop):Prop :=
 match b with
 | .arr sz' els=>(sz'=sz∧i+n≤els.length∧k∉bn) ∧
   K (.v (.tuple #[])) { s with h:=s.h.set k (.arr sz (els.take i++yad n (z.map .v)++els.drop (i+n))) }
 | _=>False
def No (bn:List Nat) (sz:Nat) (z:List Value) (x:V) (s:St) (K:V→St→Prop):Prop :=
 match x with
 | .sl k i n=>Ts bn k i n sz z s (blk s.h k) K
 | .v (.slice none 0 0)=>K (.v (.tuple #[])) s
 | _=>False
def vOf (x:V):Option Value :=
 match x with
 | .v u=>some u
 | _=>none
def An (ks:List (Nat × TypeDesc)) (x:V) (K:List Value→Prop):Prop :=
 match x with
 | .agg cs=>cW (cs.mapM vOf) fun us=>(us.length=ks.length∧(us.zip ks).all (fun p=>isKey p.2.2 p.1)=true)∧K us
 | _=>False
def iD (us:List Value):List (Value × V × Nat)→Nat→Option (Nat × V)
 | [],_=>none
 | e::es,i =>
  match e.1 with
  | .agg ws=>if (us.zip ws.toList).all (fun p=>eqK p.1 p.2) then some (i,e.2.1) else iD us es (i+1)
  | _=>iD us es (i+1)
def Bo (ks:List (Nat × TypeDesc)) (es:List (Value × V × Nat)):Prop :=
 ∀ e∈es,∃ ws:Array Value,e.1=.agg ws∧ws.size=ks.length∧(ws.toList.zip ks).all (fun p=>isKey p.2.2 p.1)=true
def rB (h:List Blk) (ks:List (Nat × TypeDesc)) (us:List Value) (z:Value) (ok:Bool) (m:V) (K:V→Prop):Prop :=
 match m with
 | .v (.map none)=>eF (some none) z ok K
 | m=>iM h m fun _ es _=>Bo ks es∧eF (some (iD us es 0)) z ok K
def Mw (sz:Nat):List (List V)→List (Nat × V)→(List (List V)→Prop)→Prop
 | acc,[],K=>K acc
 | acc,(i,x)::r,K=>cW (cells? x) fun cs=>((cs.length=sz∧i<acc.length)∧cs.all isC=true)∧Mw sz (acc.set i cs) r K
def Uo (b:Blk) (i n:Nat) (K:Nat→List (List V)→Prop):Prop :=
 match b with
 | .arv sz els=>i+n≤els.length∧K sz ((els.drop i).take n)
 | _=>False
def Jm (h:List Blk) (x:V) (K:Nat→List (List V)→Prop):Prop :=
 match x with
 | .sl k i n=>Uo (blk h k) i n K
 | _=>False
def Zj (fx bn:List Nat) (k i n sz bytes:Nat) (s:St) (new:List (List V)) (b:Blk) (K:V→St→Prop):Prop :=
 match b with
 | .arv sz' els=>(sz'=sz∧i+n≤els.length∧(n+new.length)*bytes≤140737488355328)∧(k∉fx∧k∉bn) ∧
   K (.sl k 0 (n+new.length)) { s with e:=aM [k] s.e,h:=(s.h.map (aK [k])).set k (.arv sz (((els.drop i).take n++new).map (bD [k]))) }
 | _=>False
def Sj (fx bn:List Nat) (id sz bytes:Nat) (s:St) (x:V) (new:List (List V)) (K:V→St→Prop):Prop :=
 match x with
 | .sl k i n=>Zj fx bn k i n sz bytes s new (blk s.h k) K
 | .v (.slice none 0 0)=>new.length*bytes≤140737488355328∧aF s.h id∧K (.sl id 0 new.length) { s with h:=s.h.set id (.arv sz new) }
 | _=>False
def arD (fx bn:List Nat) (p:Eff) (id:Nat) (xs:List V) (s:St) (K:V→St→Prop):Prop :=
 match p,xs with
 | .clr sz z,[x]=>No bn sz z x s K
 | .look ks z ok,[m,k]=>An ks k fun us=>rB s.h ks us z ok m fun x=>K x s
 | .mset ks,[m,k,x]=>An ks k fun us=>iM s.h m fun b es c=>(b∉bn∧Bo ks es)∧gZ (some (iD us es 0)) (.agg us.toArray) x es c fun B=>K (.v (.tuple #[])) { s with h:=s.h.set b B }
 | .litv sz n z ix,xs=>xs.length=ix.length∧Mw sz (yad n (z.map .v)) (ix.zip xs) fun els=>aF s.h id∧K (.sl id 0 n) { s with h:=s.h.set id (.arv sz els) }
 | .appv sz bytes,[x,y]=>Jm s.h y fun sz' new=>(sz'=sz∧new≠[]∧(new.all fun r=>r.all isC)=true)∧Sj fx bn id sz bytes s x new K
 | .b2s,[x]=>iG s.h x fun sz els=>(els=[]∨sz=1)∧cW (bytesOf els) fun l=>K (.v (.string ⟨l.toArray⟩)) s
 | .gload g n,[]=>cW (Lv g n) fun cs=>K (.agg (cs.map .v)) s
 | .cps,[x,y]=>iA y fun t=>uE bn 1 s x (eM t) K
 | .aps bytes,[x,y]=>iA y fun t=>Cm fx bn id 1 bytes s x (eM t) K
 | _,_=>False
def aOp (cx:Cx) (o:LOp) (s:St) (K:V→St→Prop):Prop :=
 match o with
 | .mov x=>K (ev s.e x) s
 | .pick c a b=>brV (ev s.e c) (K (ev s.e a) s) (K (ev s.e b) s)
 | .box j x=>cW (cells? (ev s.e x)) fun cs=>aF s.h (s.b+j)∧K (.ptr (s.b+j) 0 0) { s with h:=s.h.set (s.b+j) (.var cs) }
 | .alloc j z=>cW (cells? (aA z)) fun cs=>aF s.h (s.b+j)∧K (.ptr (s.b+j) 0 0) { s with h:=s.h.set (s.b+j) (.var cs) }
 | .load n a=>hJ s.h n (ev s.e a) (fun x=>K x s)
 | .store n a x=>cW (cells? (ev s.e x)) fun cs=>y9 cx.bn s.h n (ev s.e a) cs fun h=>K (.v (.tuple #[])) { s with h:=h }
 | .fld off x=>Ha off (ev s.e x) fun x=>K x s
 | .idx z x i=>cE (ev s.e i) fun _ n=>Fk s.h z n (ev s.e x) fun x=>K x s
 | .bin op ex x y=>cE (ev s.e x) fun k a=>cE (ev s.e y) fun k' b=>k'=k∧cK op ex k a b fun z=>K z s
 | .shift op x y=>cE (ev s.e x) fun k a=>cE (ev s.e y) fun _ b=>cL op k a b fun z=>K z s
 | .len x=>Fa (ev s.e x) fun x=>K x s
 | .lens x=>Ie (ev s.e x) fun x=>K x s
 | .nilc x=>match ev s.e x with
  | .ptr k i f=>K (.ptr k i f) s
  | .clo f cs=>K (.clo f cs) s
  | _=>False
 | .not x=>rJ (ev s.e x) fun t=>K (.b (!t)) s
 | .neg x=>cE (ev s.e x) fun k a=>K (.v (.int k (k.wrap (-a)))) s
 | .conv ex k x=>cE (ev s.e x) fun _ a=>if ex then (lo k≤a∧a≤hi k)∧K (.v (.int k a)) s else K (.v (.int k (k.wrap a))) s
 | .minmax mx x y=>cE (ev s.e x) fun k a=>cE (ev s.e y) fun k' b=>k'=k∧K (.v (.int k (if mx then max a b else min a b))) s
 | .ext x i=>match ev s.e x with
  | .tup vs=>cW vs[i]? fun y=>K y s
  | _=>False
 | .fn f caps=>K (.clo f (caps.map (ev s.e))) s
 | .field off n x=>He (ev s.e x) fun cs=>bX n off cs fun y=>K y s
 | .slice z x l u m=>Al (l.map (ev s.e)) fun l=>Al (u.map (ev s.e)) fun u=>Al (m.map (ev s.e)) fun m=>z7 s.h z (ev s.e x) l u m fun y=>K y s
 | .build z ps=>bJ s.e (z.map .v) ps fun y=>K y s
 | .eqf neg ks x y=>cW (mP (ev s.e x)) fun xs=>cW (mP (ev s.e y)) fun ys=>dU xs ys ks fun t=>K (.b (if neg then !t else t)) s
 | .eqb neg x y=>rJ (ev s.e x) fun a=>rJ (ev s.e y) fun b=>K (.b (if neg then a != b else a==b)) s
 | .eqn neg x y=>match ev s.e y with
  | .v _=>Hb (ev s.e x) fun t=>K (.b (if neg then !t else t)) s
  | _=>False
 | .lits j sz n z ps=>bR s.e sz (yad n (z.map .v)) ps fun els=>aF s.h (s.b+j)∧K (.sl (s.b+j) 0 n) { s with h:=s.h.set (s.b+j) (.arr sz els) }
 | .litsf xs j sz n z ps=>pV (cx.fx++cx.bn) xs s fun s=>bR s.e sz (yad n (z.map .v)) ps fun els=>aF s.h (s.b+j)∧K (.sl (s.b+j) 0 n) { s with h:=s.h.set (s.b+j) (.arr sz els) }
 | .mk j sz bytes z l c=>cE (ev s.e l) fun _ a=>cE (ev s.e c) fun _ b=>((0≤a∧a≤b)∧(bytes:Int)*b≤281474976710656∧b≤9223372036854775807)∧aF s.h (s.b+j) ∧
   K (.sl (s.b+j) 0 a.toNat) { s with h:=s.h.set (s.b+j) (.arr sz (yad a.toNat (z.map .v))) }
 | .mkv j sz bytes z l c=>cE (ev s.e l) fun _ a=>cE (ev s.e c) fun _ b=>((0≤a∧a≤b)∧(bytes:Int)*b≤281474976710656∧b≤9223372036854775807)∧aF s.h (s.b+j) ∧
   K (.sl (s.b+j) 0 a.toNat) { s with h:=s.h.set (s.b+j) (.arv sz (yad a.toNat (z.map .v))) }
 | .mkmap j r=>(match r with|some x=>cE (ev s.e x) fun _ _=>True|none=>True)∧aF s.h (s.b+j)∧K (.mp (s.b+j)) { s with h:=s.h.set (s.b+j) (.map [] 0) }
 | .lookup kd z ok m k=>Ff kd (ev s.e k) fun key=>match ev s.e m with
  | .v (.map none)=>eF (some none) z ok fun x=>K x s
  | m=>iM s.h m fun _ es _=>eF (dF kd key es 0) z ok fun x=>K x s
 | .mset kd m k x=>Ff kd (ev s.e k) fun key=>iM s.h (ev s.e m) fun b es c=>b∉cx.bn∧gZ (dF kd key es 0) key (ev s.e x) es c fun B=>K (.v (.tuple #[])) { s with h:=s.h.set b B }
 | .mdel kd m k=>Ff kd (ev s.e k) fun key=>iM s.h (ev s.e m) fun b es c=>b∉cx.bn∧Ic (dF kd key es 0) es c fun B=>K (.v (.tuple #[])) { s with h:=s.h.set b B }
 | .mlen m=>iM s.h (ev s.e m) fun _ es _=>K (.i es.length) s
 | .range j m=>iM s.h (ev s.e m) fun _ _ c=>aF s.h (s.b+j)∧K (.ptr (s.b+j) 0 0) { s with h:=s.h.set (s.b+j) (.it (ev s.e m) c [] c) }
 | .next i=>itK s.h (ev s.e i) fun b m since seen last=>iM s.h m fun _ es c=>b∉cx.bn∧Mo es since seen last (K (.tup [.b false]) s)
   fun key x born=>K (.tup [.b true,.v key,x]) { s with h:=s.h.set b (.it m since (seen++[born]) c) }
 | .entry i=>itK s.h (ev s.e i) fun _ m _ seen last=>iM s.h m fun _ es c=>last=c∧cW seen.getLast? fun st=>To (es.find? fun e=>e.2.2==st) fun x=>K x s
 | .append j sz bytes x y=>iG s.h (ev s.e y) fun sz' new=>(new=[]∨sz'=sz)∧Cm cx.fx cx.bn (s.b+j) sz bytes s (ev s.e x) new K
 | .copy sz x y=>iG s.h (ev s.e y) fun sz' new=>(new=[]∨sz'=sz)∧uE cx.bn sz s (ev s.e x) new K
 | .call f xs=>aR cx f (xs.map (ev s.e)) s K
 | .callv f xs=>match ev s.e f with
  | .clo g cs=>aR cx g (xs.map (ev s.e)++cs) s K
  | _=>False
 | .prim p xs=>akQ s.h p (xs.map (ev s.e)) fun x=>K x s
 | .eff p j xs=>arD cx.fx cx.bn p (s.b+j) (xs.map (ev s.e)) s K
 | _=>False
def aZ (x:V) (want:Bool) (A B C:Prop):Prop :=
 match x with
 | .v (.bool b)=>if want then br b A B else br b B A
 | .v (.tuple _)=>C
 | _=>False
def rQ (cx:Cx) (o:aH) (s:St) (K:St→Prop):Prop :=
 match o.g with
 | none=>aOp cx o.op s fun x s'=>K (s'.put o.dst x)
 | some (g,want)=>aZ (get s.e g) want
   (aOp cx o.op (s.put (some g) (.b want)) fun x s'=>K (s'.put o.dst x))
   (K ((s.put (some g) (.b !want)).put o.dst (.v (.tuple #[]))))
   (K (s.put o.dst (.v (.tuple #[]))))
def eV (cx:Cx):List aH→St→(St→Prop)→Prop
 | [],s,K=>K s
 | o::r,s,K=>rQ cx o s fun s'=>eV cx r s' K
def rdB (o:LOp) (e:Env) (bn:List Nat):List Nat :=
 match o with
 | .load _ a=>match ev e a with
  | .ptr k _ _=>k::bn
  | _=>bn
 | _=>bn
def awP (cx:Cx):LPlan→List Nat→(St→Prop)→St→Prop
 | .done,_,K,s=>K s
 | .take _ _ o p,bn,K,s=>rQ cx o s fun s'=>awP cx p (rdB o.op s.e bn) K s'
 | .alt _ o r p q,bn,K,s=>rQ { cx with bn:=if r then bn else [] } o s (fun s'=>awP cx p (if r then bn else []) K s')∧awP cx q bn K s
 | .none,_,_,_=>True
def leE (e:Env):Env→Prop
 | []=>True
 | (i,x)::r=>get e i=x∧leE e r
def leV (x:V) (y:V):Prop :=
 match y with
 | .any=>True
 | y=>x=y
def cI:List V→List V→Prop
 | [],[]=>True
 | x::xs,y::ys=>leV x y∧cI xs ys
 | _,_=>False
def leB (b:Blk) (c:Blk):Prop :=
 match c with
 | .dead=>True
 | .var ys=>match b with
  | .var xs=>cI xs ys
  | _=>False
 | .rcd t p=>match b with
  | .rcd t' e=>t'=t∧(e=p∨leE e p)
  | _=>False
 | c=>b=c
def leH:List Blk→List Blk→Prop
 | _,[]=>True
 | b::h,c::p=>leB b c∧leH h p
 | [],_::_=>False
mutual
def wfV (h:List Blk):V→Prop
 | .sl k _ _=>aC h k
 | .ptr k _ _=>aC h k
 | .mp k=>aC h k
 | .itr k=>aC h k
 | .agg cs=>wfL h cs
 | .tup cs=>wfL h cs
 | .clo _ cs=>wfL h cs
 | _=>True
def wfL (h:List Blk):List V→Prop
 | []=>True
 | x::r=>wfV h x∧wfL h r
end
def wfE (h:List Blk):Env→Prop
 | []=>True
 | (_,x)::r=>wfV h x∧wfE h r
def wfB (h:List Blk):List Blk→Prop
 | []=>True
 | .var cs::r=>wfL h cs∧wfB h r
 | .dead::r=>wfB h r
 | .arr _ _::r=>wfB h r
 | .arv _ els::r=>wfL h els.flatten∧wfB h r
 | .map es _::r=>wfL h (es.map (·.2.1))∧wfB h r
 | .it m _ _ _::r=>wfV h m∧wfB h r
 | .rcd _ e::r=>wfE h e∧wfB h r
def leS (fx:List Nat) (s p:St):Prop:=leE s.e p.e∧leH s.h p.h∧aD fx p.h∧wfE p.h p.e∧wfB p.h p.h
def Qx (x y:V):Prop:=y=x∨(x=.nil∧∃ k,y=.sl k 0 0)
def Kd (xs ys:List V):Prop:=ys.length=xs.length∧∀ (i:Nat) (x y:V),xs[i]?=some x→ys[i]?=some y→Qx x y
def abE (xs ys:List (List V)):Prop:=ys.length=xs.length∧∀ (i:Nat) (x y:List V),xs[i]?=some x→ys[i]?=some y→Kd x y
mutual
def mvV (i j:Nat):V→V
 | .sl k a n=>.sl (if k=j then i else k) a n
 | .ptr k a f=>.ptr (if k=j then i else k) a f
 | .mp k=>.mp (if k=j then i else k)
 | .itr k=>.itr (if k=j then i else k)
 | .agg cs=>.agg (mvL i j cs)
 | .tup cs=>.tup (mvL i j cs)
 | .clo f cs=>.clo f (mvL i j cs)
 | x=>x
def mvL (i j:Nat):List V→List V
 | []=>[]
 | x::r=>mvV i j x::mvL i j r
end
def mvE (i j:Nat):Env→Env
 | []=>[]
 | (t,x)::r=>(t,mvV i j x)::mvE i j r
def mvB (i j:Nat):Blk→Blk
 | .var cs=>.var (mvL i j cs)
 | .arv s es=>.arv s (es.map (mvL i j))
 | .map es c=>.map (es.map fun e=>(e.1,mvV i j e.2.1,e.2.2)) c
 | .it m s sn l=>.it (mvV i j m) s sn l
 | .rcd t e=>.rcd t (mvE i j e)
 | b=>b
inductive eL (fx:List Nat):St→St→Prop
 | refl (s:St):eL fx s s
 | le {s p s':St} (hl:leS fx s p) (h:eL fx p s'):eL fx s s'
 | give {s s':St} (M:Nat→Bool) (hM:∀ k∈fx,M k=false) (h:eL fx (s.give M) s'):eL fx s s'
 | virt {s s':St} (n sz:Nat) (hz:0<sz) (h:eL fx { s with h:=s.h++yad n (.arr sz []) } s'):eL fx s s'
 | virtAt {s s':St} (k sz:Nat) (hz:0<sz) (hk:s.h[k]?=some .dead) (h:eL fx { s with h:=s.h.set k (.arr sz []) } s'):eL fx s s'
 | mv {s s':St} (i j:Nat) (B:Blk) (hij:i≠j) (hi:s.h[i]?=some .dead) (hj:s.h[j]?=some B) (hf:j∉fx) (h:eL fx { s with e:=mvE i j s.e,h:=((s.h.map (mvB i j)).set i (mvB i j B)).set j .dead } s'):eL fx s s'
 | nilE {s s':St} (i k:Nat) (hn:get s.e i=.nil) (h:eL fx { s with e:=(i,.sl k 0 0)::s.e } s'):eL fx s s'
 | nilB {s s':St} (j:Nat) (xs ys:List V) (hb:s.h[j]?=some (.var xs)) (hr:Kd xs ys) (h:eL fx { s with h:=s.h.set j (.var ys) } s'):eL fx s s'
 | nilW {s s':St} (j sz:Nat) (xs ys:List (List V)) (hb:s.h[j]?=some (.arv sz xs)) (hr:abE xs ys) (h:eL fx { s with h:=s.h.set j (.arv sz ys) } s'):eL fx s s'
 | opn {s s':St} (j sz:Nat) (els:List (List V)) (hb:s.h[j]?=some (.arr sz els)) (hn:els≠[]) (h:eL fx { s with h:=s.h.set j (.arv sz els) } s'):eL fx s s'
 | cls {s s':St} (j sz:Nat) (els:List (List V)) (hb:s.h[j]?=some (.arv sz els)) (hd:∀ e∈els,e.all isD=true) (h:eL fx { s with h:=s.h.set j (.arr sz els) } s'):eL fx s s'
 | shr {s s':St} (j sz n:Nat) (els:List (List V)) (hb:s.h[j]?=some (.arr sz els)) (h:eL fx { s with h:=s.h.set j (.arr sz (els.take n)) } s'):eL fx s s'
def leG (fx:List Nat) (s p:St):Prop:=∃ s',eL fx s s'∧leS fx s' p
def Ew (fx:List Nat) (f:(St→Prop)→St→Prop) (s:St):Prop :=
 ∃ (G:Type) (pat:G→St) (I:G→Prop) (μ:G→Nat) (L:St→St→Prop),(∀ a b,L a b→leG fx a b)∧(∃ g,I g∧leG fx s (pat g)) ∧
   ∀ g,I g→f (fun s'=>∃ g',(I g'∧μ g'<μ g)∧L s' (pat g')) (pat g)
def gP (g:Option (Nat × Bool)) (dst:Option Nat) (A:St→(V→St→Prop)→Prop) (s:St) (K:St→Prop):Prop :=
 match g with
 | none=>A s fun x s'=>K (s'.put dst x)
 | some (g,want)=>aZ (get s.e g) want
   (A (s.put (some g) (.b want)) fun x s'=>K (s'.put dst x))
   (K ((s.put (some g) (.b !want)).put dst (.v (.tuple #[]))))
   (K (s.put dst (.v (.tuple #[]))))
def pY (cx:Cx) (f:Operand) (xs:List Operand) (s:St) (K:V→St→Prop):Prop :=
 match ev s.e f with
 | .itr k=>cx.y k (xs.map (ev s.e)) s K
 | _=>False
def Gr (cx:Cx) (o:aH) (s:St) (K:St→Prop):Prop :=
 match o.op with
 | .yld f xs=>gP o.g o.dst (pY cx f xs) s K
 | _=>rQ cx o s K
def aB (cx:Cx):List aH→St→(St→Prop)→Prop
 | [],s,K=>K s
 | o::r,s,K=>Gr cx o s fun s'=>aB cx r s' K
def fF:List Nat→List V→Env→Env
 | p::ps,x::xs,e=>fF ps xs ((p,x)::e)
 | _,_,e=>e
def vM (h:List Blk) (k:Nat) (K:RS→Env→Prop):Prop :=
 match h[k]? with
 | some (.rcd t e)=>K t e
 | _=>False
def fT (k kE bI:Nat) (K:V→St→Prop) (b:Bool) (t:RS) (s:St):Prop :=
 vM s.h k fun t2 e2=>t2=.busy∧vM s.h kE fun t3 eI=>t3=.ghost∧K (.b b) ⟨eI,(s.h.set k (.rcd t e2)).set kE .dead,bI⟩
def Bv (k:Nat) (K:St→Prop) (s:St):Prop :=
 vM s.h k fun t e=>t=.ready∧K { s with h:=s.h.set k (.rcd .busy e) }
def Fw (k:Nat) (N:St→Prop) (X:Nat→St→Prop) (R:St→Prop) (h:List Blk):Prop :=
 vM h k fun t e=>(wfE (h.set k .dead) e∧wfB (h.set k .dead) (h.set k .dead))∧match t with
  | .ready=>N ⟨e,h.set k .dead,0⟩
  | .out none=>R ⟨e,h.set k .dead,0⟩
  | .out (some j)=>X j ⟨e,h.set k .dead,0⟩
  | _=>False
def v6 (rk:Option Nat) (h:List Blk):Prop :=
 match rk with
 | none=>True
 | some k=>vM h k fun t _=>t=.busy
def aw:Cx→LCode→(St→Prop)→(Nat→St→Prop)→(St→Prop)→St→Prop
 | _,.skip,N,_,_,s=>N s
 | cx,.reg n ops,N,_,_,s=>eV cx ops { s with b:=s.h.length,h:=s.h++yad n .dead } N
 | cx,.tail _ n ops,N,_,_,s=>eV cx ops { s with b:=s.h.length,h:=s.h++yad n .dead } N
 | cx,.qui n ops,N,_,_,s=>eV cx ops { s with b:=s.h.length,h:=s.h++yad n .dead } N
 | cx,.tree n p,N,_,_,s=>awP cx p [] N { s with b:=s.h.length,h:=s.h++yad n .dead }
 | cx,.yreg _ n ops,N,_,_,s=>aB cx ops { s with b:=s.h.length,h:=s.h++yad n .dead } N
 | cx,.ytree n p _ ops,N,_,_,s=>awP cx p [] (fun s'=>aB cx ops s' N) { s with b:=s.h.length,h:=s.h++yad n .dead }
 | cx,.seq a b,N,X,R,s=>aw cx a (fun s'=>aw cx b N X R s') X R s
 | cx,.cond c a b,N,X,R,s=>brV (ev s.e c) (aw cx a N X R s) (aw cx b N X R s)
 | cx,.block id c,N,X,R,s=>aw cx c N (fun j s'=>if j=id then N s' else X j s') R s
 | cx,.loop c,_,X,R,s=>Ew cx.fx (fun N=>aw cx c N X R) s
 | _,.exit id,_,X,_,s=>X id s
 | _,.ret,_,_,R,s=>R s
 | _,.bad,_,_,_,_=>False
 | cx,.frz xs c,N,X,R,s=>pV cx.fx xs s fun s'=>aw cx c N X R s'
 | cx,.rfn g ps asg body,N,X,R,s =>
  match ev s.e g with
  | .clo gf caps=>v6 cx.rk s.h∧cx.it gf (.itr s.h.length::caps) (s.h.length::cx.fx) s.h.length
    (fun xs sI K=>vM sI.h s.h.length fun t e=>t=.ready∧xs.length=ps.length ∧
     aw { cx with fx:=sI.h.length::s.h.length::cx.fx,y:=fun _ _ _ _=>False,rk:=some s.h.length } asg
      (Bv s.h.length fun s1=>aw { cx with fx:=sI.h.length::s.h.length::cx.fx,y:=fun _ _ _ _=>False,rk:=some s.h.length } body
       (fT s.h.length sI.h.length sI.b K true .ready) (fun j=>fT s.h.length sI.h.length sI.b K false (.out (some j))) (fT s.h.length sI.h.length sI.b K false (.out none)) s1)
      (fun _ _=>False) (fun _=>False) ⟨fF ps xs e,sI.h++[.rcd .ghost sI.e],sI.b⟩)
    (s.h++[.rcd .ready s.e]) (Fw s.h.length N X R)
  | _=>False
inductive eK where
 | tmp (t:Nat)
 | cell (a:Nat) (n:Option Nat)
def aY (h:List Blk) (e:Env):List eK→List V→(List V→Prop)→Prop
 | [],acc,K=>K acc.reverse
 | .tmp t::r,acc,K=>aY h e r (get e t::acc) K
 | .cell a n::r,acc,K=>hJ h n (get e a) fun x=>aY h e r (x::acc) K
def a7:List V→V
 | [x]=>x
 | xs=>.tup xs
def dD (fx:List Nat) (n:Nat) (rs:List eK) (R:V→List Blk→Prop) (s:St):Prop :=
 aY s.h s.e rs [] fun xs=>∃ p,(leH s.h p∧aD fx p∧n≤p.length∧wfV p (a7 xs)∧wfB p p)∧R (a7 xs) p
def aO:Nat→List V→Env
 | _,[]=>[]
 | i,x::r=>(i,x)::aO (i+1) r
end Go.Fx
namespace Go.Fx
open Go.RowKit
structure Loc where
 real:Bool
 blk:Nat
 off:Nat
 sz:Nat
 room:Nat
 lp:Loop:=default
 deriving Inhabited
def Own (ρ:Nat→Loc) (b:Nat):Prop:=∃ k,(ρ k).real=true∧(ρ k).blk=b
def Sta (ρ:Nat→Loc) (X:Nat→Prop) (w:World) (b:Nat):Prop:=b<w.heap.size∧¬Own ρ b∧¬X b
def Len (ρ:Nat→Loc) (w:World) (b:Nat):Prop:=b<w.heap.size∧¬Own ρ b
mutual
def fO (S:Nat→Prop) (w:World):V→Value→Prop
 | .v x,val=>val=x∧isD (.v x)=true
 | .ro sz els,val=>∃ a len cap,val=.slice a len cap∧len=els.length∧len≤cap∧cap≤maxLen ∧
   (els=[]∨∃ b off,a=some ⟨b,off,none⟩∧S b∧cP S w sz b off els)
 | _,_=>False
def cP (S:Nat→Prop) (w:World) (sz b:Nat):Nat→List (List V)→Prop
 | _,[]=>True
 | off,e::r=>(e.length=sz∧iH S w b off e)∧cP S w sz b (off+sz) r
def iH (S:Nat→Prop) (w:World) (b:Nat):Nat→List V→Prop
 | _,[]=>True
 | off,x::r=>(∃ val,w.cell? ⟨b,off,none⟩=some val∧fO S w x val)∧iH S w b (off+1) r
end
mutual
def aX (ρ:Nat→Loc) (X:Nat→Prop) (w:World):V→Value→Prop
 | .any,_=>True
 | .v x,val=>val=x
 | .ro sz els,val=>fO (Sta ρ X w) w (.ro sz els) val
 | .bro sz els,val=>∃ a len cap,val=.slice a len cap∧len=els.length∧len≤cap∧cap≤maxLen ∧
   (els=[]∨∃ b off,a=some ⟨b,off,none⟩∧Len ρ w b∧cP (Sta ρ X w) w sz b off els)
 | .full sz els,val=>∃ a len,val=.slice a len len∧len=els.length∧len≤maxLen ∧
   (els=[]∨∃ b off,a=some ⟨b,off,none⟩∧Len ρ w b∧cP (Sta ρ X w) w sz b off els)
 | .sl k i n,val=>∃ cap,n≤cap∧cap≤maxLen∧((cap=0∧∃ a,val=.slice a 0 0) ∨
   ((ρ k).real=true∧val=.slice (some ⟨(ρ k).blk,(ρ k).off+i*(ρ k).sz,none⟩) n cap∧(ρ k).off+(i+cap)*(ρ k).sz≤(ρ k).room))
 | .ptr k i f,val=>(ρ k).real=true∧val=.pointer (some ⟨(ρ k).blk,(ρ k).off+i*(ρ k).sz+f,none⟩)
 | .rp sz els i f,val=>∃ b off,val=.pointer (some ⟨b,off+i*sz+f,none⟩)∧Len ρ w b∧cP (Sta ρ X w) w sz b off els
 | .agg cs,val=>∃ arr:Array Value,val=.agg arr∧bL ρ X w cs arr.toList
 | .tup cs,val=>∃ arr:Array Value,val=.tuple arr∧bL ρ X w cs arr.toList
 | .clo f cs,val=>∃ arr:Array Value,val=.func (.func f) #[] arr∧bL ρ X w cs arr.toList
 | .mp k,val=>(ρ k).real=true∧val=.map (some (ρ k).blk)
 | .itr k,val=>(ρ k).real=true∧val=.func (.yield (ρ k).blk) #[] #[]
def bL (ρ:Nat→Loc) (X:Nat→Prop) (w:World):List V→List Value→Prop
 | [],[]=>True
 | x::r,u::us=>aX ρ X w x u∧bL ρ X w r us
 | _,_=>False
end
def cS (ρ:Nat→Loc) (X:Nat→Prop) (w:World) (e:Env) (t:Array Value):Prop :=
 ∀ i,aX ρ X w (get e i) (t.getD i undef)
def Eh (w:World) (L:Loc):RS→Prop
 | .ghost=>L.real=false
 | .ready=>(L.real=true∧L.off=0∧L.sz=0)∧w.heap[L.blk]?=some (.loop { L.lp with state:=.ready,pending:=none })
 | .busy=>(L.real=true∧L.off=0∧L.sz=0)∧w.heap[L.blk]?=some (.loop { L.lp with state:=.busy,pending:=none })
 | .out none=>(L.real=true∧L.off=0∧L.sz=0)∧w.heap[L.blk]?=some (.loop { L.lp with state:=.done,pending:=some .ret })
 | .out (some j)=>(L.real=true∧L.off=0∧L.sz=0)∧w.heap[L.blk]?=some (.loop { L.lp with state:=.done,pending:=some (.exit j) })
 | .gone=>(L.real=true∧L.off=0∧L.sz=0)∧∃ r,w.heap[L.blk]?=some (.loop r)
theorem uS {w w':World} {L:Loc} {t:RS} (hb:L.real=true→w'.heap[L.blk]?=w.heap[L.blk]?) (h:Eh w L t):Eh w' L t:=by
 unfold Eh at h ⊢
 split at h
 ·exact h
 ·exact ⟨h.1,(hb h.1.1).trans h.2⟩
 ·exact ⟨h.1,(hb h.1.1).trans h.2⟩
 ·exact ⟨h.1,(hb h.1.1).trans h.2⟩
 ·exact ⟨h.1,(hb h.1.1).trans h.2⟩
 ·exact ⟨h.1,by rw [hb h.1.1];exact h.2⟩
def bE (ρ:Nat→Loc) (X:Nat→Prop) (w:World) (k:Nat):Blk→Prop
 | .dead=>(ρ k).real=false
 | .arr sz els=>((ρ k).sz=sz∧0<sz)∧(((ρ k).real=false∧els=[])∨((ρ k).real=true ∧
   ∃ c T,w.heap[(ρ k).blk]?=some (.cells c T (0,0))∧c.size=(ρ k).room∧(ρ k).off+els.length*sz≤(ρ k).room ∧
    cP (Sta ρ X w) w sz (ρ k).blk (ρ k).off els))
 | .var cs=>((ρ k).real=true∧(ρ k).off=0∧(ρ k).sz=1)∧∃ c T,w.heap[(ρ k).blk]?=some (.cells c T (0,0))∧(bL ρ X w cs c.toList∧c.size=(ρ k).room)
 | .arv sz els=>((ρ k).sz=sz∧0<sz)∧((ρ k).real=true ∧
   ∃ c T,w.heap[(ρ k).blk]?=some (.cells c T (0,0))∧c.size=(ρ k).room∧(ρ k).off+els.length*sz≤(ρ k).room ∧
    ∀ (i:Nat) (e:List V),els[i]?=some e→e.length=sz∧∀ (f:Nat) (x:V),e[f]?=some x→∃ u,c[(ρ k).off+i*sz+f]?=some u∧aX ρ X w x u)
 | .map es clock=>((ρ k).real=true∧(ρ k).off=0∧(ρ k).sz=0)∧∃ arr,w.heap[(ρ k).blk]?=some (.map arr clock) ∧
   arr.toList.map (fun e=>(e.key,e.born))=es.map (fun e=>(e.1,e.2.2))∧bL ρ X w (es.map (·.2.1)) (arr.toList.map (·.val))
 | .it m since seen last=>((ρ k).real=true∧(ρ k).off=0∧(ρ k).sz=0)∧∃ x,w.heap[(ρ k).blk]?=some (.mapIter x since seen.toArray last)∧aX ρ X w m (.map x)
 | .rcd t e=>Eh w (ρ k) t∧cS ρ X w e (ρ k).lp.tmps
def Tb (b:Nat):Prop:=∃ p∈tabs,p.1=b
def Zn (w:World):Prop:=∀ p∈tabs,∀ (i:Nat) (h:i<p.2.length),w.cell? ⟨p.1,i,none⟩=some p.2[i]
structure Rep (ρ:Nat→Loc) (X:Nat→Prop) (w:World) (h:List Blk):Prop where
 inj:∀ j k,j≠k→(ρ j).real=true→(ρ k).real=true→(ρ j).blk≠(ρ k).blk
 out:∀ k,h.length≤k→(ρ k).real=false
 blk:∀ k b,h[k]?=some b→bE ρ X w k b
 disj:∀ b,Own ρ b→¬(X b∨Tb b)
 lt:∀ k,(ρ k).real=true→(ρ k).blk<w.heap.size
 xlt:(∀ b,X b∨Tb b→b<w.heap.size)∧Zn w
structure Fr (ρ:Nat→Loc) (w:World) (ρ':Nat→Loc) (w':World):Prop where
 os:w'.os=w.os
 tape:w'.tape=w.tape
 output:w'.output=w.output
 size:w.heap.size≤w'.heap.size
 keep:∀ b,b<w.heap.size→¬Own ρ b→w'.heap[b]?=w.heap[b]?∧¬Own ρ' b
theorem Fr.refl (ρ:Nat→Loc) (w:World):Fr ρ w ρ w:=⟨rfl,rfl,rfl,yae _,fun _ _ h=>⟨rfl,h⟩⟩
theorem Fr.trans {ρ ρ' ρ'':Nat→Loc} {w w' w'':World} (h:Fr ρ w ρ' w') (g:Fr ρ' w' ρ'' w''):Fr ρ w ρ'' w'' :=
 ⟨g.os.trans h.os,g.tape.trans h.tape,g.output.trans h.output,Nat.le_trans h.size g.size,fun b hb ho =>
  have h1:=h.keep b hb ho
  have h2:=g.keep b (yat hb h.size) h1.2
  ⟨h2.1.trans h1.1,h2.2⟩⟩
theorem Sta.fr {ρ ρ':Nat→Loc} {X:Nat→Prop} {w w':World} (h:Fr ρ w ρ' w') {b:Nat} (hb:Sta ρ X w b):Sta ρ' X w' b :=
 ⟨yat hb.1 h.size,(h.keep b hb.1 hb.2.1).2,hb.2.2⟩
theorem Len.fr {ρ ρ':Nat→Loc} {w w':World} (h:Fr ρ w ρ' w') {b:Nat} (hb:Len ρ w b):Len ρ' w' b :=
 ⟨yat hb.1 h.size,(h.keep b hb.1 hb.2).2⟩
theorem cell_of_heap {w w':World} {b o:Nat} (h:w'.heap[b]?=w.heap[b]?):w'.cell? ⟨b,o,none⟩=w.cell? ⟨b,o,none⟩:=by
 simp [World.cell?,h]
theorem Rep.xfr {ρ ρ':Nat→Loc} {X:Nat→Prop} {w w':World} {h:List Blk} (hr:Rep ρ X w h) (hf:Fr ρ w ρ' w'):(∀ b,X b∨Tb b→b<w'.heap.size)∧Zn w':=by
 refine ⟨fun b hb=>yat (hr.xlt.1 b hb) hf.size,fun p hp i hi=>?_⟩
 have hb:X p.1∨Tb p.1:=.inr ⟨p,hp,rfl⟩
 have:=hf.keep p.1 (hr.xlt.1 _ hb) fun ho=>hr.disj _ ho hb
 rw [cell_of_heap this.1]
 exact hr.xlt.2 p hp i hi
mutual
theorem dN {S S':Nat→Prop} {w w':World} (hS:∀ b,S b→S' b∧w'.heap[b]?=w.heap[b]?) :
  ∀ (x:V) (val:Value),fO S w x val→fO S' w' x val
 | .v _,_,h=>h
 | .ro sz els,val,h=>by
  obtain ⟨a,len,cap,h1,h2,h3,h4,h5⟩:=h
  refine ⟨a,len,cap,h1,h2,h3,h4,h5.imp id ?_⟩
  rintro ⟨b,off,h6,h7,h8⟩
  exact ⟨b,off,h6,(hS b h7).1,aW hS sz b (hS b h7).2 off els h8⟩
 | .any,_,h|.bro _ _,_,h|.full _ _,_,h|.sl _ _ _,_,h|.ptr _ _ _,_,h|.rp _ _ _ _,_,h|.agg _,_,h|.tup _,_,h|.clo _ _,_,h|.mp _,_,h|.itr _,_,h=>h.elim
theorem aW {S S':Nat→Prop} {w w':World} (hS:∀ b,S b→S' b∧w'.heap[b]?=w.heap[b]?) (sz b:Nat) (hb:w'.heap[b]?=w.heap[b]?) :
  ∀ (off:Nat) (els:List (List V)),cP S w sz b off els→cP S' w' sz b off els
 | _,[],_=>trivial
 | off,e::r,h=>⟨⟨h.1.1,Gu hS b hb off e h.1.2⟩,aW hS sz b hb (off+sz) r h.2⟩
theorem Gu {S S':Nat→Prop} {w w':World} (hS:∀ b,S b→S' b∧w'.heap[b]?=w.heap[b]?) (b:Nat) (hb:w'.heap[b]?=w.heap[b]?) :
  ∀ (off:Nat) (cs:List V),iH S w b off cs→iH S' w' b off cs
 | _,[],_=>trivial
 | off,x::r,h=>⟨by obtain ⟨⟨val,h1,h2⟩,_⟩:=h;exact ⟨val,(cell_of_heap hb).trans h1,dN hS x val h2⟩,Gu hS b hb (off+1) r h.2⟩
end
theorem Fr.sta {ρ ρ':Nat→Loc} {X:Nat→Prop} {w w':World} (h:Fr ρ w ρ' w'):∀ b,Sta ρ X w b→Sta ρ' X w' b∧w'.heap[b]?=w.heap[b]? :=
 fun b hb=>⟨hb.fr h,(h.keep b hb.1 hb.2.1).1⟩
mutual
theorem gN {ρ ρ':Nat→Loc} {X:Nat→Prop} {w w':World} (hf:Fr ρ w ρ' w') (M:List Nat) (hag:∀ k,k∉M→(ρ k).real=true→ρ' k=ρ k) :
  ∀ (x:V) (val:Value),aX ρ X w x val→aX ρ' X w' (kill M x) val
 | .any,_,_=>trivial
 | .v _,_,h=>h
 | .ro sz els,val,h=>dN hf.sta (.ro sz els) val h
 | .bro sz els,val,h=>by
  obtain ⟨a,len,cap,h1,h2,h3,h4,h5⟩:=h
  refine ⟨a,len,cap,h1,h2,h3,h4,h5.imp id ?_⟩
  rintro ⟨b,off,h6,h7,h8⟩
  exact ⟨b,off,h6,h7.fr hf,aW hf.sta sz b (hf.keep b h7.1 h7.2).1 off els h8⟩
 | .full sz els,val,h=>by
  obtain ⟨a,len,h1,h2,h4,h5⟩:=h
  refine ⟨a,len,h1,h2,h4,h5.imp id ?_⟩
  rintro ⟨b,off,h6,h7,h8⟩
  exact ⟨b,off,h6,h7.fr hf,aW hf.sta sz b (hf.keep b h7.1 h7.2).1 off els h8⟩
 | .sl k i n,val,h=>by
  by_cases hk:k∈M
  ·simp [kill,hk,aX]
  ·simp only [kill,hk,if_false]
   obtain ⟨cap,h1,h2,h3⟩:=h
   refine ⟨cap,h1,h2,h3.imp id ?_⟩
   rintro ⟨h4,h5,h6⟩
   rw [hag k hk h4]
   exact ⟨h4,h5,h6⟩
 | .ptr k i f,val,h=>by
  by_cases hk:k∈M
  ·simp [kill,hk,aX]
  ·simp only [kill,hk,if_false]
   obtain ⟨h4,h5⟩:=h
   simp only [aX]
   rw [hag k hk h4]
   exact ⟨h4,h5⟩
 | .rp sz els i f,val,h=>by
  obtain ⟨b,off,h6,h7,h8⟩:=h
  exact ⟨b,off,h6,h7.fr hf,aW hf.sta sz b (hf.keep b h7.1 h7.2).1 off els h8⟩
 | .agg cs,val,h=>by
  obtain ⟨arr,h1,h2⟩:=h
  exact ⟨arr,h1,i7 hf M hag cs arr.toList h2⟩
 | .tup cs,val,h=>by
  obtain ⟨arr,h1,h2⟩:=h
  exact ⟨arr,h1,i7 hf M hag cs arr.toList h2⟩
 | .clo f cs,val,h=>by
  obtain ⟨arr,h1,h2⟩:=h
  exact ⟨arr,h1,i7 hf M hag cs arr.toList h2⟩
 | .mp k,val,h=>by
  by_cases hk:k∈M
  ·simp [kill,hk,aX]
  ·simp only [kill,hk,if_false]
   obtain ⟨h4,h5⟩:=h
   simp only [aX]
   rw [hag k hk h4]
   exact ⟨h4,h5⟩
 | .itr k,val,h=>by
  by_cases hk:k∈M
  ·simp [kill,hk,aX]
  ·simp only [kill,hk,if_false]
   obtain ⟨h4,h5⟩:=h
   simp only [aX]
   rw [hag k hk h4]
   exact ⟨h4,h5⟩
theorem i7 {ρ ρ':Nat→Loc} {X:Nat→Prop} {w w':World} (hf:Fr ρ w ρ' w') (M:List Nat) (hag:∀ k,k∉M→(ρ k).real=true→ρ' k=ρ k) :
  ∀ (xs:List V) (vs:List Value),bL ρ X w xs vs→bL ρ' X w' (bD M xs) vs
 | [],[],_=>trivial
 | x::r,u::us,h=>⟨gN hf M hag x u h.1,i7 hf M hag r us h.2⟩
 | [],_::_,h=>h.elim
 | _::_,[],h=>h.elim
end
mutual
theorem bT {ρ ρ':Nat→Loc} {X:Nat→Prop} {w w':World} (hf:Fr ρ w ρ' w') (hag:∀ k,(ρ k).real=true→ρ' k=ρ k) :
  ∀ (x:V) (val:Value),aX ρ X w x val→aX ρ' X w' x val
 | .any,_,_=>trivial
 | .v _,_,h=>h
 | .ro sz els,val,h=>dN hf.sta (.ro sz els) val h
 | .bro sz els,val,h=>by
  obtain ⟨a,len,cap,h1,h2,h3,h4,h5⟩:=h
  refine ⟨a,len,cap,h1,h2,h3,h4,h5.imp id ?_⟩
  rintro ⟨b,off,h6,h7,h8⟩
  exact ⟨b,off,h6,h7.fr hf,aW hf.sta sz b (hf.keep b h7.1 h7.2).1 off els h8⟩
 | .full sz els,val,h=>by
  obtain ⟨a,len,h1,h2,h4,h5⟩:=h
  refine ⟨a,len,h1,h2,h4,h5.imp id ?_⟩
  rintro ⟨b,off,h6,h7,h8⟩
  exact ⟨b,off,h6,h7.fr hf,aW hf.sta sz b (hf.keep b h7.1 h7.2).1 off els h8⟩
 | .sl k i n,val,h=>by
  obtain ⟨cap,h1,h2,h3⟩:=h
  refine ⟨cap,h1,h2,h3.imp id ?_⟩
  rintro ⟨h4,h5,h6⟩
  rw [hag k h4]
  exact ⟨h4,h5,h6⟩
 | .ptr k i f,val,h=>by
  obtain ⟨h4,h5⟩:=h
  simp only [aX]
  rw [hag k h4]
  exact ⟨h4,h5⟩
 | .rp sz els i f,val,h=>by
  obtain ⟨b,off,h6,h7,h8⟩:=h
  exact ⟨b,off,h6,h7.fr hf,aW hf.sta sz b (hf.keep b h7.1 h7.2).1 off els h8⟩
 | .agg cs,val,h=>by
  obtain ⟨arr,h1,h2⟩:=h
  exact ⟨arr,h1,eG hf hag cs arr.toList h2⟩
 | .tup cs,val,h=>by
  obtain ⟨arr,h1,h2⟩:=h
  exact ⟨arr,h1,eG hf hag cs arr.toList h2⟩
 | .clo f cs,val,h=>by
  obtain ⟨arr,h1,h2⟩:=h
  exact ⟨arr,h1,eG hf hag cs arr.toList h2⟩
 | .mp k,val,h=>by
  obtain ⟨h4,h5⟩:=h
  simp only [aX]
  rw [hag k h4]
  exact ⟨h4,h5⟩
 | .itr k,val,h=>by
  obtain ⟨h4,h5⟩:=h
  simp only [aX]
  rw [hag k h4]
  exact ⟨h4,h5⟩
theorem eG {ρ ρ':Nat→Loc} {X:Nat→Prop} {w w':World} (hf:Fr ρ w ρ' w') (hag:∀ k,(ρ k).real=true→ρ' k=ρ k) :
  ∀ (xs:List V) (vs:List Value),bL ρ X w xs vs→bL ρ' X w' xs vs
 | [],[],_=>trivial
 | x::r,u::us,h=>⟨bT hf hag x u h.1,eG hf hag r us h.2⟩
 | [],_::_,h=>h.elim
 | _::_,[],h=>h.elim
end
end Go.Fx
namespace Go.Fx
open Go.RowKit
inductive T where
 | int (k:IntKind)
 | bool
 | str
 | sl (sz:Nat) (e:T)
 | st (fs:List T)
 deriving Inhabited
mutual
def T.size:T→Nat
 | .st fs=>T.sizes fs
 | .int _=>1
 | .bool=>1
 | .str=>1
 | .sl _ _=>1
def T.sizes:List T→Nat
 | []=>0
 | t::r=>t.size+T.sizes r
end
def Lu (P:Program) (g:TypeId→Option T):Nat→List Field→Option (List T)
 | _,[]=>some []
 | off,f::fs=>match g f.type,Lu P g (off+P.cellsOf f.type) fs with
  | some t,some ts=>if f.offset=off∧P.cellsOf f.type=t.size then some (t::ts) else none
  | _,_=>none
def Gx (P:Program):Nat→TypeId→Option T
 | 0,_=>none
 | n+1,t=>match P.underlying t with
  | some .bool=>some .bool
  | some (.int k)=>some (.int k)
  | some .string=>some .str
  | some (.slice e)=>match Gx P n e with
   | some te=>if P.cellsOf e=te.size∧0<te.size then some (.sl te.size te) else none
   | none=>none
  | some (.struct fs)=>match Lu P (Gx P n) 0 fs.toList with
   | some ts=>if P.cellsOf t=T.sizes ts then some (.st ts) else none
   | none=>none
  | some (.array m e)=>match Gx P n e with
   | some te=>if P.cellsOf e=te.size∧P.cellsOf t=m*te.size∧T.sizes (yad m te)=m*te.size then some (.st (yad m te)) else none
   | none=>none
  | _=>none
mutual
def WfT:T→List V→Prop
 | .int k,xs=>∃ n,xs=[.v (.int k n)]∧lo k≤n∧n≤hi k
 | .bool,xs=>∃ b,xs=[.b b]
 | .str,xs=>∃ s:ByteArray,xs=[.v (.string s)]∧s.size≤maxLen
 | .sl sz e,xs=>∃ els,xs=[.ro sz els]∧els.length≤maxLen∧∀ x∈els,WfT e x
 | .st fs,xs=>Zm fs xs
def Zm:List T→List V→Prop
 | [],xs=>xs=[]
 | f::fs,xs=>∃ a b,xs=a++b∧WfT f a∧Zm fs b
end
def pT (S:Nat→Prop) (w:World):List V→List Value→Prop
 | [],[]=>True
 | x::r,u::us=>fO S w x u∧pT S w r us
 | _,_=>False
section
variable {S:Nat→Prop} {w:World} {P:Program}
theorem j7:∀ {xs:List V} {us:List Value},pT S w xs us→xs.length=us.length
 | [],[],_=>rfl
 | _::_,_::_,h=>by simp [j7 h.2]
 | [],_::_,h=>h.elim
 | _::_,[],h=>h.elim
theorem pO:∀ {xs:List V} {us:List Value} {ys:List V} {vs:List Value},pT S w xs us→pT S w ys vs→pT S w (xs++ys) (us++vs)
 | [],[],_,_,_,h=>h
 | _::_,_::_,_,_,h,g=>⟨h.1,pO h.2 g⟩
 | [],_::_,_,_,h,_=>h.elim
 | _::_,[],_,_,h,_=>h.elim
theorem Ny (b:Nat):∀ (off:Nat) (xs:List V) (us:List Value),pT S w xs us→(∀ i,i<us.length→w.cell? ⟨b,off+i,none⟩=us[i]?)→iH S w b off xs
 | _,[],[],_,_=>trivial
 | off,x::r,u::us,h,g=>⟨⟨u,by simpa using g 0 (by simp),h.1⟩,Ny b (off+1) r us h.2 fun i hi=>by
   have:=g (i+1) (by simpa using hi)
   rw [show off+1+i=off+(i+1) by omega]
   simpa using this⟩
 | _,[],_::_,h,_=>h.elim
 | _,_::_,[],h,_=>h.elim
theorem add_none {a:Addr} (h:a.spot=none) (i:Nat):a.add i=⟨a.block,a.off+i,none⟩:=by
 unfold Addr.add
 split
 ·subst_vars;cases a;simp_all
 ·rfl
theorem cell_spot {a:Addr} {u:Value} (h:w.cell? a=some u):a.spot=none∧a.block<w.heap.size:=by
 unfold World.cell? at h
 split at h
 ·rename_i c _ _ hc
  split at h
  ·cases h
  ·rename_i hs
   exact ⟨by simpa using hs,(yaK.1 hc).1⟩
 ·cases h
theorem Yp {sz b off len:Nat} {Q:List V→Prop}
  (h:∀ i,i<len→∃ xs,xs.length=sz∧Q xs∧iH S w b (off+i*sz) xs):∀ m start,start+m=len→∃ els:List (List V),els.length=m∧(∀ x∈els,Q x)∧cP S w sz b (off+start*sz) els
 | 0,_,_=>⟨[],rfl,by simp,trivial⟩
 | m+1,start,hm=>by
  obtain ⟨xs,h1,h2,h3⟩:=h start (by omega)
  obtain ⟨els,h4,h5,h6⟩:=Yp h m (start+1) (by omega)
  refine ⟨xs::els,by simp [h4],?_,⟨h1,h3⟩,?_⟩
  ·intro x hx
   rcases yaD.1 hx with rfl|hx
   ·exact h2
   ·exact h5 x hx
  ·rw [show off+start*sz+sz=off+(start+1)*sz by rw [yak];omega]
   exact h6
variable {H:Type} {enc:TypeId × Value→H} {base:Nat} {spare:Nat→Bool} {held:Bool}
theorem Fs {n:Nat} {g:TypeId→Option T} {cs:List Value}
  (ih:∀ t ty cs x,g t=some ty→DataW.trod enc P w base spare held n t cs=some x→∃ xs,WfT ty xs∧pT S w xs cs) :
  ∀ (fs:List Field) (off:Nat) (ts:List T),Lu P g off fs=some ts→(∀ f∈fs,∃ x,DataW.trod enc P w base spare held n f.type ((cs.drop f.offset).take (P.cellsOf f.type))=some x)→off+T.sizes ts=cs.length →
   ∃ xs,Zm ts xs∧pT S w xs (cs.drop off)
 | [],off,ts,h,_,hl=>by
  simp only [Lu,yaa] at h
  subst h
  simp only [T.sizes,Nat.add_zero] at hl
  exact ⟨[],rfl,by rw [hl,List.drop_length];trivial⟩
 | f::fs,off,ts,h,hx,hl=>by
  simp only [Lu] at h
  split at h
  ·rename_i ty tr h1 h2
   split at h
   ·rename_i hc
    simp only [yaa] at h
    subst h
    obtain ⟨x,hx1⟩:=hx f List.mem_cons_self
    obtain ⟨xs,h3,h4⟩:=ih f.type ty _ x h1 hx1
    simp only [T.sizes] at hl
    obtain ⟨ys,h5,h6⟩:=Fs ih fs _ tr h2 (fun f' hf'=>hx f' (yaL _ hf')) (by omega)
    refine ⟨xs++ys,⟨xs,ys,rfl,h3,h5⟩,?_⟩
    have:=pO h4 h6
    rw [hc.1,←yaE,yaM] at this
    exact this
   ·cases h
  ·cases h
theorem Si {n:Nat} {ty:T} {e:TypeId} {cs:List Value} (hsz:P.cellsOf e=ty.size)
  (ih:∀ cs x,DataW.trod enc P w base spare held n e cs=some x→∃ xs,WfT ty xs∧pT S w xs cs) :
  ∀ (m i:Nat),(∀ j,i≤j→j<i+m→∃ x,DataW.trod enc P w base spare held n e ((cs.drop (j*P.cellsOf e)).take (P.cellsOf e))=some x)→(i+m)*P.cellsOf e=cs.length →
   ∃ xs,Zm (yad m ty) xs∧pT S w xs (cs.drop (i*P.cellsOf e))
 | 0,i,_,hl=>⟨[],rfl,by simp only [Nat.add_zero] at hl;rw [hl,List.drop_length];trivial⟩
 | m+1,i,hx,hl=>by
  obtain ⟨x,hx1⟩:=hx i (yae _) (by omega)
  obtain ⟨xs,h3,h4⟩:=ih _ x hx1
  obtain ⟨ys,h5,h6⟩:=Si hsz ih m (i+1) (fun j h1 h2=>hx j (by omega) (by omega)) (by rw [←hl];congr 1;omega)
  refine ⟨xs++ys,⟨xs,ys,rfl,h3,h5⟩,?_⟩
  have:=pO h4 h6
  rw [yak,Nat.one_mul,←yaE,yaM] at this
  exact this
theorem vE (hS:∀ b,b<w.heap.size→S b):∀ (fuel f:Nat) (t:TypeId) (ty:T) (cs:List Value) (x:DataW H × List MemPlace),Gx P f t=some ty →
  DataW.trod enc P w base spare held fuel t cs=some x→∃ xs,WfT ty xs∧pT S w xs cs
 | 0,_,_,_,_,_,_,h=>by simp [DataW.trod] at h
 | fuel+1,0,_,_,_,_,ht,_=>by simp [Gx] at ht
 | fuel+1,f+1,t,ty,cs,x,ht,h=>by
  simp only [Gx] at ht
  split at ht
  ·rename_i hu
   simp only [yaa] at ht
   subst ht
   simp only [DataW.trod,hu] at h
   split at h<;>simp_all
   rename_i b
   exact ⟨[.b b],⟨b,rfl⟩,⟨rfl,rfl⟩,trivial⟩
  ·rename_i k hu
   simp only [yaa] at ht
   subst ht
   simp only [DataW.trod,hu] at h
   split at h<;>simp_all
   rename_i k' n _
   obtain ⟨⟨rfl,hw⟩,_⟩:=h
   refine ⟨[.v (.int k' n)],⟨n,rfl,?_⟩,⟨rfl,rfl⟩,trivial⟩
   cases k'<;>simpa [Lit.wf,IntKind.min,IntKind.max,IntKind.signed,IntKind.bits,lo,hi] using hw
  ·rename_i hu
   simp only [yaa] at ht
   subst ht
   simp only [DataW.trod,hu] at h
   split at h<;>simp_all
   rename_i s
   exact ⟨[.v (.string s)],⟨s,rfl,h.1⟩,⟨rfl,rfl⟩,trivial⟩
  ·rename_i e hu
   split at ht
   ·rename_i te he
    split at ht
    ·rename_i hc
     simp only [yaa] at ht
     subst ht
     rcases DataW.trod_slice hu h with ⟨rfl,_⟩|⟨a,len,cap,elems,rest,n,hn,rfl,_,hb,hlc,hcm,hlen,hel,_⟩
     ·exact ⟨[.ro te.size []],⟨[],rfl,yah _,by simp⟩,⟨none,0,0,rfl,rfl,yae _,yah _,.inl rfl⟩,trivial⟩
     ·obtain rfl:fuel=n:=by omega
      have key:∀ i,i<len→∃ xs,xs.length=te.size∧WfT te xs∧iH S w a.block (a.off+i*te.size) xs∧a.spot=none∧a.block<w.heap.size:=by
       intro i hi
       have h1:=hel i hi
       rw [yaf (by omega)] at h1
       obtain ⟨cs',h2,h3⟩:=yau.1 h1
       obtain ⟨xs,h4,h5⟩:=vE hS fuel f e te cs' _ he h3
       obtain ⟨_,h6,h7⟩:=World.cells?_some h2
       have h0:w.cell? ((a.add (i*P.cellsOf e)).add 0)=cs'[0]?:=h7 0 (by omega)
       rw [yaf (by omega)] at h0
       obtain ⟨h8,h9⟩:=cell_spot h0
       have hb0:((a.add (i*P.cellsOf e)).add 0).block=a.block:=by unfold Addr.add;split<;>split<;>rfl
       have hnz:∀ j,(a.add (i*P.cellsOf e)).add j=⟨a.block,a.off+i*P.cellsOf e+j,none⟩:=by
        have:(a.add (i*P.cellsOf e)).spot=none:=by simpa [Addr.add] using h8
        intro j
        rw [add_none this]
        have h10:(a.add (i*P.cellsOf e)).block=a.block:=by unfold Addr.add;split<;>rfl
        have h11:(a.add (i*P.cellsOf e)).off=a.off+i*P.cellsOf e:=by unfold Addr.add;split<;>simp_all
        rw [h10,h11]
       have hspot:a.spot=none:=by
        have h1:=hel 0 (by omega)
        rw [yaf (by omega)] at h1
        obtain ⟨cs2,h12,_⟩:=yau.1 h1
        obtain ⟨_,h13,h14⟩:=World.cells?_some h12
        have h15:=h14 0 (by omega)
        rw [yaf (by omega)] at h15
        have:=(cell_spot h15).1
        simpa [Addr.add] using this
       refine ⟨xs,by rw [j7 h5,h6,hc.1],h4,Ny a.block _ xs cs' h5 fun j hj=>?_,hspot,by rw [←hb0];exact h9⟩
       rw [←h7 j (by omega),hnz,hc.1]
      by_cases hl0:len=0
      ·subst hl0
       exact ⟨[.ro te.size []],⟨[],rfl,yah _,by simp⟩,⟨some a,0,cap,rfl,rfl,yah _,hcm,.inl rfl⟩,trivial⟩
      ·obtain ⟨els,h20,h21,h22⟩:=Yp (S:=S) (w:=w) (sz:=te.size) (b:=a.block) (off:=a.off) (len:=len) (Q:=WfT te) (fun i hi=>by obtain ⟨xs,h1,h2,h3,_⟩:=key i hi;exact ⟨xs,h1,h2,h3⟩) len 0 (by omega)
       obtain ⟨_,_,_,_,h23,h24⟩:=key 0 (by omega)
       refine ⟨[.ro te.size els],⟨els,rfl,by omega,h21⟩,⟨some a,len,cap,rfl,h20.symm,hlc,hcm,.inr ⟨a.block,a.off,?_,hS _ h24,by simpa using h22⟩⟩,trivial⟩
       cases a;simp_all
    ·cases ht
   ·cases ht
  ·rename_i fs hu
   split at ht
   ·rename_i ts hts
    split at ht
    ·rename_i hc
     simp only [yaa] at ht
     subst ht
     obtain ⟨xs,n,hn,_,hl,hxl,hf⟩:=DataW.trod_struct hu h
     obtain rfl:fuel=n:=by omega
     obtain ⟨ys,h1,h2⟩:=Fs (P:=P) (n:=fuel) (cs:=cs) (fun t ty cs x h1 h2=>vE hS fuel f t ty cs x h1 h2) fs.toList 0 ts hts (fun fl hfl=>by
      obtain ⟨i,hi⟩:=List.getElem?_of_mem hfl
      have hi':fs[i]?=some fl:=by simpa using hi
      have h3:=hf i fl hi'
      have:i<xs.length:=by rw [hxl];exact (yaK.1 hi').1
      rw [yaf this] at h3
      exact ⟨_,h3⟩) (by omega)
     exact ⟨ys,h1,by simpa using h2⟩
    ·cases ht
   ·cases ht
  ·rename_i m e hu
   split at ht
   ·rename_i te he
    split at ht
    ·rename_i hc
     simp only [yaa] at ht
     subst ht
     simp only [DataW.trod,hu] at h
     split at h
     ·rename_i hl
      simp only [yab] at h
      obtain ⟨xs,h1,_⟩:=h
      have hlen:=mapM_some_length h1
      obtain ⟨ys,h3,h4⟩:=Si (P:=P) (n:=fuel) (ty:=te) (e:=e) (cs:=cs) hc.1 (fun cs x h2=>vE hS fuel f e te cs x he h2) m 0 (fun j _ hj=>by
       have h5:=mapM_some_get h1 j j (by rw [List.getElem?_range];omega)
       have:j<xs.length:=by rw [hlen,List.length_range];omega
       rw [yaf this] at h5
       exact ⟨_,h5⟩) (by rw [hl,hc.2.1,hc.1,yag])
      exact ⟨ys,h3,by simpa using h4⟩
     ·cases h
    ·cases ht
   ·cases ht
  ·cases ht
end
end Go.Fx
namespace Go.Fx
open Go.RowKit
section
variable {S:Nat→Prop} {w:World} {sz b:Nat}
theorem gQ:∀ {off:Nat} {cs:List V},iH S w b off cs→∀ {f:Nat} {x:V},cs[f]?=some x→∃ val,w.cell? ⟨b,off+f,none⟩=some val∧fO S w x val
 | off,y::r,h,0,x,hx=>by
  obtain ⟨⟨val,h1,h2⟩,_⟩:=h
  simp only [yaF,yaa] at hx
  subst hx
  exact ⟨val,h1,h2⟩
 | off,y::r,h,f+1,x,hx=>by
  obtain ⟨val,h1,h2⟩:=gQ h.2 (f:=f) (x:=x) (by simpa using hx)
  exact ⟨val,by rw [show off+(f+1)=off+1+f by omega];exact h1,h2⟩
 | off,[],_,f,x,hx=>by simp at hx
theorem oQ:∀ {off:Nat} {cs:List V},(∀ f x,cs[f]?=some x→∃ val,w.cell? ⟨b,off+f,none⟩=some val∧fO S w x val)→iH S w b off cs
 | _,[],_=>trivial
 | off,x::r,h=>⟨by simpa using h 0 x rfl,oQ fun f y hy=>by rw [show off+1+f=off+(f+1) by omega];exact h (f+1) y (by simpa using hy)⟩
theorem eO:∀ {off:Nat} {els:List (List V)},cP S w sz b off els→∀ {i:Nat} {e:List V},els[i]?=some e→e.length=sz∧iH S w b (off+i*sz) e
 | off,y::r,h,0,e,he=>by
  simp only [yaF,yaa] at he
  subst he
  simpa using h.1
 | off,y::r,h,i+1,e,he=>by
  have:=eO h.2 (i:=i) (e:=e) (by simpa using he)
  rw [show off+(i+1)*sz=off+sz+i*sz by rw [yak];omega]
  exact this
 | off,[],_,i,e,he=>by simp at he
theorem eH:∀ {off:Nat} {els:List (List V)},(∀ i e,els[i]?=some e→e.length=sz∧iH S w b (off+i*sz) e)→cP S w sz b off els
 | _,[],_=>trivial
 | off,x::r,h=>⟨by simpa using h 0 x rfl,eH fun i e he=>by
   have:=h (i+1) e (by simpa using he)
   rw [show off+(i+1)*sz=off+sz+i*sz by rw [yak];omega] at this
   exact this⟩
end
section
variable {ρ:Nat→Loc} {X:Nat→Prop} {w:World}
theorem cZ:∀ {xs:List V} {vs:List Value},bL ρ X w xs vs→xs.length=vs.length
 | [],[],_=>rfl
 | _::_,_::_,h=>by simp [cZ h.2]
 | [],_::_,h=>h.elim
 | _::_,[],h=>h.elim
theorem cG:∀ {xs:List V} {vs:List Value},bL ρ X w xs vs→∀ {f:Nat} {x:V},xs[f]?=some x→∃ val,vs[f]?=some val∧aX ρ X w x val
 | [],[],_,_,_,hx=>by simp at hx
 | x::r,u::us,h,0,y,hy=>by
  simp only [yaF,yaa] at hy
  subst hy
  exact ⟨u,rfl,h.1⟩
 | x::r,u::us,h,f+1,y,hy=>by simpa using cG h.2 (f:=f) (x:=y) (by simpa using hy)
 | [],_::_,h,_,_,_=>h.elim
 | _::_,[],h,_,_,_=>h.elim
theorem gW:∀ {xs:List V} {vs:List Value},xs.length=vs.length→(∀ (f:Nat) (x:V),xs[f]?=some x→∃ val,vs[f]?=some val∧aX ρ X w x val)→bL ρ X w xs vs
 | [],[],_,_=>trivial
 | x::r,u::us,hl,h=>⟨by simpa using h 0 x rfl,gW (by simpa using hl) fun f y hy=>by simpa using h (f+1) y (by simpa using hy)⟩
 | [],_::_,hl,_=>by simp at hl
 | _::_,[],hl,_=>by simp at hl
theorem oN {x:V} {val:Value} (h:fO (Sta ρ X w) w x val):aX ρ X w x val:=by
 cases x<;>first|exact h|exact h.1|exact h.elim
theorem oP {x:V} {val:Value} (hd:isD x=true) (h:aX ρ X w x val):fO (Sta ρ X w) w x val:=by
 cases x<;>first|exact h|exact ⟨h,hd⟩|(simp [isD] at hd)
theorem Nx {S:Nat→Prop} {x:V} {val:Value} (h:fO S w x val):val.oneCell'=true:=by
 cases x with
 | v y =>
  obtain ⟨rfl,hd⟩:=h
  cases val<;>simp_all [isD,Value.oneCell']
 | ro sz els =>
  obtain ⟨a,len,cap,rfl,_⟩:=h
  rfl
 | _=>exact h.elim
theorem i6 {x:V} {val:Value} {cs:List V} (hc:cells? x=some cs) (h:aX ρ X w x val):bL ρ X w cs val.cells.toList:=by
 cases x with
 | any=>simp [cells?] at hc
 | v y =>
  have h':val=y:=h
  subst h'
  cases val with
  | agg arr =>
   simp only [cells?,yaa] at hc
   subst hc
   refine gW (by simp [Value.cells]) fun f x hx=>?_
   simp only [yac,yab] at hx
   obtain ⟨u,hu,rfl⟩:=hx
   exact ⟨u,hu,rfl⟩
  | tuple _=>simp [cells?] at hc
  | _ =>
   simp only [cells?,yaa] at hc
   subst hc
   exact ⟨rfl,trivial⟩
 | ro sz els =>
  simp only [cells?,yaa] at hc
  subst hc
  have h':=h
  obtain ⟨a,len,cap,rfl,_⟩:=h
  exact ⟨h',trivial⟩
 | bro sz els =>
  simp only [cells?,yaa] at hc
  subst hc
  have h':=h
  obtain ⟨a,len,cap,rfl,_⟩:=h
  exact ⟨h',trivial⟩
 | full sz els =>
  simp only [cells?,yaa] at hc
  subst hc
  have h':=h
  obtain ⟨a,len,rfl,_⟩:=h
  exact ⟨h',trivial⟩
 | sl k i n =>
  simp only [cells?,yaa] at hc
  subst hc
  have h':=h
  obtain ⟨cap,_,_,h3⟩:=h
  rcases h3 with ⟨_,a,rfl⟩|⟨_,rfl,_⟩<;>exact ⟨h',trivial⟩
 | ptr k i f =>
  simp only [cells?,yaa] at hc
  subst hc
  have h':=h
  obtain ⟨_,rfl⟩:=h
  exact ⟨h',trivial⟩
 | rp sz els i f =>
  simp only [cells?,yaa] at hc
  subst hc
  have h':=h
  obtain ⟨b,off,rfl,_⟩:=h
  exact ⟨h',trivial⟩
 | agg ds =>
  simp only [cells?,yaa] at hc
  subst hc
  obtain ⟨arr,rfl,h2⟩:=h
  exact h2
 | tup _=>simp [cells?] at hc
 | clo f ds =>
  simp only [cells?,yaa] at hc
  subst hc
  have h':=h
  obtain ⟨arr,rfl,h2⟩:=h
  exact ⟨h',trivial⟩
 | mp k =>
  simp only [cells?,yaa] at hc
  subst hc
  have h':=h
  obtain ⟨_,rfl⟩:=h
  exact ⟨h',trivial⟩
 | itr k =>
  simp only [cells?,yaa] at hc
  subst hc
  have h':=h
  obtain ⟨_,rfl⟩:=h
  exact ⟨h',trivial⟩
theorem dM (c:Value):aX ρ X w (aA c) c:=by
 cases c with
 | agg arr =>
  refine ⟨arr,rfl,gW (by simp) fun f x hx=>?_⟩
  simp only [yac,yab] at hx
  obtain ⟨u,hu,rfl⟩:=hx
  exact ⟨u,hu,rfl⟩
 | _=>rfl
theorem aT {e:Env} {a:Act} (he:cS ρ X w e a.tmps) (x:Operand):aX ρ X w (ev e x) (a.eval x):=by
 cases x with
 | tmp t=>exact he t
 | const c=>exact dM c
 | func f=>exact ⟨#[],rfl,trivial⟩
 | global g=>trivial
theorem get_put (e:Env) (d i:Nat) (x:V):get ((d,x)::e) i=if i=d then x else get e i:=rfl
theorem eJ {e:Env} {a:Act} (he:cS ρ X w e a.tmps) {d:Option Nat} {x:V} {val:Value} (hx:aX ρ X w x val) (hd:∀ n,d=some n→n<a.tmps.size) (s:St) (hs:s.e=e) :
  cS ρ X w (s.put d x).e (a.put d val).tmps:=by
 subst hs
 cases d with
 | none=>exact he
 | some n =>
  intro i
  have hn:=hd n rfl
  simp only [St.put,get_put,Act.put]
  by_cases hi:i=n
  ·subst hi
   simpa [hn] using hx
  ·have:=he i
   rw [if_neg hi]
   simpa [Array.getD_eq_getD_getElem?,yav,Ne.symm hi] using this
theorem size_put (a:Act) (d:Option Nat) (val:Value):(a.put d val).tmps.size=a.tmps.size:=by cases d<;>simp [Act.put]
end
end Go.Fx
namespace Go.Fx
open Go.RowKit
theorem foldl_set (off:Nat):∀ (l:List Value) (k:Nat) (cells:Array Value),off+k+l.length≤cells.size →
  ((l.zipIdx k).foldl (fun cs (x:Value × Nat)=>cs.setIfInBounds (off+x.2) x.1) cells).size=cells.size ∧
  ∀ i,((l.zipIdx k).foldl (fun cs (x:Value × Nat)=>cs.setIfInBounds (off+x.2) x.1) cells)[i]?=if off+k≤i∧i<off+k+l.length then l[i-(off+k)]? else cells[i]?
 | [],k,cells,_=>⟨rfl,fun i=>by rw [if_neg (by rintro ⟨h1,h2⟩;simp at h2;omega)];rfl⟩
 | v::r,k,cells,h=>by
  simp only [List.zipIdx_cons,List.foldl_cons]
  obtain ⟨h1,h2⟩:=foldl_set off r (k+1) (cells.setIfInBounds (off+k) v) (by simp at h ⊢;omega)
  refine ⟨by rw [h1];simp,fun i=>?_⟩
  rw [h2 i]
  by_cases hi:i=off+k
  ·subst hi
   rw [if_neg (by omega),if_pos (by simp)]
   simp at h
   rw [yav,if_pos rfl,if_pos (by omega)]
   simp
  ·by_cases h5:off+(k+1)≤i∧i<off+(k+1)+r.length
   ·rw [if_pos h5,if_pos (by simp;omega)]
    obtain ⟨m,rfl⟩:∃ m,i=off+(k+1)+m:=⟨i-(off+(k+1)),by omega⟩
    rw [show off+(k+1)+m-(off+(k+1))=m by omega,show off+(k+1)+m-(off+k)=m+1 by omega]
    simp
   ·rw [if_neg h5,if_neg (by simp;omega),yav,if_neg (by omega)]
theorem uW (v:Array Value) (off:Nat) (cells:Array Value) (h:off+v.size≤cells.size) :
  (v.zipIdx.foldl (fun cs (x:Value × Nat)=>cs.setIfInBounds (off+x.2) x.1) cells).size=cells.size ∧
  ∀ i,(v.zipIdx.foldl (fun cs (x:Value × Nat)=>cs.setIfInBounds (off+x.2) x.1) cells)[i]?=if off≤i∧i<off+v.size then v[i-off]? else cells[i]?:=by
 rw [←Array.foldl_toList,Array.toList_zipIdx]
 have:=foldl_set off v.toList 0 cells (by simpa using h)
 simpa using this
theorem k7 {cs new:List V} {f:Nat} (h:f+new.length≤cs.length) (i:Nat):(splice cs f new)[i]?=if f≤i∧i<f+new.length then new[i-f]? else cs[i]?:=by
 unfold splice
 by_cases h1:i<f
 ·rw [if_neg (by omega),List.append_assoc,yaN (by simp;omega),yaw,if_pos h1]
 ·by_cases h2:i<f+new.length
  ·rw [if_pos (by omega),List.append_assoc,yaO (by simp;omega),yaN (by simp;omega)]
   congr 1
   simp
   omega
  ·rw [if_neg (by omega),yaO (by simp;omega),yaG]
   congr 1
   simp
   omega
theorem j9 {cs new:List V} {f:Nat} (h:f+new.length≤cs.length):(splice cs f new).length=cs.length:=by
 unfold splice
 simp
 omega
section
variable {ρ:Nat→Loc} {X:Nat→Prop} {w:World}
theorem Oe {cs new:List V} {f:Nat} {cells v:Array Value} (h:f+new.length≤cs.length) (hc:bL ρ X w cs cells.toList) (hv:bL ρ X w new v.toList) :
  bL ρ X w (splice cs f new) (v.zipIdx.foldl (fun cs (x:Value × Nat)=>cs.setIfInBounds (f+x.2) x.1) cells).toList:=by
 have hl1:=cZ hc
 have hl2:=cZ hv
 simp only [yaH] at hl1 hl2
 obtain ⟨h1,h2⟩:=uW v f cells (by omega)
 refine gW (by rw [j9 h];show _=Array.size _;rw [h1];exact hl1) fun g x hx=>?_
 rw [k7 h] at hx
 simp only [yaz,h2]
 split at hx
 ·rename_i hg
  rw [if_pos (by omega)]
  obtain ⟨u,h3,h4⟩:=cG hv hx
  exact ⟨u,by simpa using h3,h4⟩
 ·rename_i hg
  rw [if_neg (by omega)]
  obtain ⟨u,h3,h4⟩:=cG hc hx
  exact ⟨u,by simpa using h3,h4⟩
theorem dO {α:Type} {o:Option α} {K:α→Prop} (h:cW o K):∃ x,o=some x∧K x:=by
 unfold cW at h
 split at h
 ·exact ⟨_,rfl,h⟩
 ·exact h.elim
theorem uY {e:Env} {a:Act} (he:cS ρ X w e a.tmps) {place:Nat→Option (Nat × Nat)} {K:V→Prop}:∀ (parts:List (Nat × Operand)) (ps:List (Nat × Nat × Operand)) (acc:List V) (cells:Array Value),
  parts.mapM (fun p=>(place p.1).map fun os=>(os.1,os.2,p.2))=some ps→bL ρ X w acc cells.toList→bJ e acc ps K →
   ∃ y cells',K (.agg y)∧Instr.fill place cells (parts.map fun p=>(p.1,a.eval p.2))=some cells'∧bL ρ X w y cells'.toList
 | [],ps,acc,cells,hm,ha,hk=>by
  simp at hm
  subst hm
  exact ⟨acc,cells,hk,rfl,ha⟩
 | (i,x)::r,ps,acc,cells,hm,ha,hk=>by
  simp only [yaA,Option.bind_eq_bind,Option.pure_def] at hm
  cases hp:place i with
  | none=>simp [hp] at hm
  | some os =>
   obtain ⟨off,sz⟩:=os
   cases hr:r.mapM (fun p=>(place p.1).map fun os=>(os.1,os.2,p.2)) with
   | none=>simp [hp,hr] at hm
   | some ps' =>
    simp [hp,hr] at hm
    subst hm
    obtain ⟨cs,h1,⟨h2,h3⟩,h4⟩:=dO hk
    have hx:=i6 h1 (aT he x)
    have hl:=cZ hx
    have hl1:=cZ ha
    simp only [yaH] at hl hl1
    obtain ⟨y,cells',h5,h6,h7⟩:=uY he r ps' _ _ hr (Oe (by omega) ha hx) h4
    refine ⟨y,cells',h5,?_,h7⟩
    simp only [List.map_cons,Instr.fill,hp]
    rw [if_neg (by simp;omega)]
    exact h6
end
end Go.Fx
namespace Go.Fx
open Go.RowKit
def Ak (z:Value):Bool:=z.cells.toList.all fun v=>isD (.v v)
def Db (P:Program) (f:Field):Option (Nat × TypeDesc) :=
 if f.name ≠ "_"∧P.plainKey f.type=true then (P.underlying f.type).map fun d=>(f.offset,d) else none
def Dy (P:Program) (c:Call) (l:LOp):Option LOp :=
 match c.callee,c.args.toList,c.argTypes.toList with
 | .builtin .len,[x],[t]=>match P.underlying t with
  | some (.slice _)=>some (.len x)
  | some .string=>some (.lens x)
  | some (.map _ _)=>some (.mlen x)
  | _=>none
 | .value (.func f),xs,_=>some (.call f xs)
 | .value f,xs,_=>some (.callv f xs)
 | .builtin .min,[x,y],_=>some (.minmax false x y)
 | .builtin .max,[x,y],_=>some (.minmax true x y)
 | .builtin .delete,[m,k],t::_=>match P.underlying t with
  | some (.map kt _)=>match P.underlying kt with
   | some kd=>some (.mdel kd m k)
   | none=>none
  | _=>none
 | .builtin .append,[x,y],[t,t']=>if t=t' then match P.underlying t,l with
   | some (.slice e),.append j _ _ _ _=>match P.info? e with
    | some i=>match i.zero with
     | some z=>if 0<i.size∧z.cells.size=i.size∧0<i.bytes then some (.append j i.size i.bytes x y) else none
     | none=>none
    | none=>none
   | _,_=>none
  else none
 | .builtin .copy,[x,y],[t,t']=>match P.underlying t,P.underlying t' with
   | some (.slice e),some (.slice _)=>match P.info? e with
    | some i=>some (.copy i.size x y)
    | none=>none
   | _,_=>none
 | _,_,_=>none
def rl0 (P:Program) (o:Op) (l:LOp):Option LOp :=
 match o with
 | .move x|.assign x=>some (.mov x)
 | .pick c a b=>some (.pick c a b)
 | .box _ x=>match l with
  | .box j _=>some (.box j x)
  | _=>none
 | .alloc t=>match l with
  | .alloc j _=>match P.info? t with
   | some i=>match i.zero with
    | some z=>some (.alloc j z)
    | none=>none
   | none=>none
  | _=>none
 | .load t a=>match P.info? t,P.underlying t with
  | some i,some d=>some (.load (if d.isRow then some i.size else none) a)
  | _,_=>none
 | .store t a x=>match P.info? t with
  | some i=>some (.store i.size a x)
  | none=>none
 | .fieldAddr s x f=>match P.underlying s with
  | some (.struct fs)=>match fs[f]? with
   | some fd=>match P.info? fd.type with
    | some i=>if i.size=0 then none else some (.fld fd.offset x)
    | none=>none
   | none=>none
  | _=>none
 | .indexAddr t x i=>match P.underlying t with
  | some (.slice e)=>match P.info? e with
   | some inf=>some (.idx inf.size x i)
   | none=>none
  | _=>none
 | .binOp op t x y _=>match P.underlying t with
  | some (.int _)=>match l with
   | .bin _ ex _ _=>some (.bin op ex x y)
   | .shift _ _ _=>some (.shift op x y)
   | _=>none
  | some .bool=>match op with
   | .eql=>some (.eqb false x y)
   | .neq=>some (.eqb true x y)
   | _=>none
  | some (.struct fs)=>if P.stoodInHeld t=false∧P.eqGuardType P.depth t=false then match fs.toList.mapM (Db P),op with
    | some ks,.eql=>some (.eqf false ks x y)
    | some ks,.neq=>some (.eqf true ks x y)
    | _,_=>none
   else none
  | some (.slice _)=>match y with
   | .const (.slice none 0 0)=>match op with
    | .eql=>some (.eqn false x y)
    | .neq=>some (.eqn true x y)
    | _=>none
   | _=>none
  | _=>none
 | .nilCheck x=>some (.nilc x)
 | .unOp op _ x=>match op with
  | .not=>some (.not x)
  | .neg=>some (.neg x)
  | _=>none
 | .convert s d x=>match P.underlying s,P.underlying d,l with
  | some (.int _),some (.int k),.conv ex _ _=>some (.conv ex k x)
  | _,_,_=>none
 | .extract x i=>some (.ext x i)
 | .makeFunc fn first caps=>match fn with
  | .func f=>if first.isEmpty then some (.fn f caps.toList) else none
  | _=>none
 | .field t x f=>match P.underlying t with
  | some (.struct fs)=>match fs[f]? with
   | some fd=>match P.info? fd.type,P.underlying fd.type with
    | some i,some d=>some (.field fd.offset (if d.isRow then some i.size else none) x)
    | _,_=>none
   | none=>none
  | _=>none
 | .build t parts=>match P.info? t,P.underlying t with
  | some it,some (.array _ e)=>match it.zero,P.info? e with
   | some z,some ie=>(parts.toList.mapM fun p=>(some (p.1*ie.size,ie.size):Option (Nat × Nat)).map fun os=>(os.1,os.2,p.2)).map (.build z.cells.toList)
   | _,_=>none
  | some it,some (.struct fields)=>match it.zero,fields.toList.mapM (fun f=>(P.info? f.type).map fun i=>(f.offset,i.size)) with
   | some z,some places=>(parts.toList.mapM fun p=>(places.toArray[p.1]?).map fun os=>(os.1,os.2,p.2)).map (.build z.cells.toList)
   | _,_=>none
  | _,_=>none
 | .buildSlice t n parts=>match l with
  | .litsf xs j _ _ _ _=>match P.underlying t with
   | some (.slice e)=>match P.info? e with
    | some i=>match i.zero with
     | some z=>if 0<i.size∧z.cells.size=i.size∧n*i.size≤16777216∧Ak z=true then some (.litsf xs j i.size n z.cells.toList parts.toList) else none
     | none=>none
    | none=>none
   | _=>none
  | .lits j _ _ _ _=>match P.underlying t with
   | some (.slice e)=>match P.info? e with
    | some i=>match i.zero with
     | some z=>if 0<i.size∧z.cells.size=i.size∧n*i.size≤16777216∧Ak z=true then some (.lits j i.size n z.cells.toList parts.toList) else none
     | none=>none
    | none=>none
   | _=>none
  | _=>none
 | .makeMap t r=>match l with
  | .mkmap j _=>match P.underlying t with
   | some (.map _ _)=>some (.mkmap j r)
   | _=>none
  | _=>none
 | .lookup t m k ok=>match P.underlying t with
  | some (.map kt e)=>match P.underlying kt,P.info? e with
   | some kd,some i=>match i.zero with
    | some z=>some (.lookup kd z ok m k)
    | none=>none
   | _,_=>none
  | _=>none
 | .mapUpdate t m k x|.insert t m k x=>match P.underlying t with
  | some (.map kt _)=>match P.underlying kt with
   | some kd=>some (.mset kd m k x)
   | none=>none
  | _=>none
 | .range t m=>match l with
  | .range j _=>match P.underlying t with
   | some (.map _ _)=>some (.range j m)
   | _=>none
  | _=>none
 | .next i s=>if s then none else some (.next i)
 | .entry i=>some (.entry i)
 | .makeSlice t a b=>match l with
  | .mkv j _ _ _ _ _=>match P.underlying t with
   | some (.slice e)=>match P.info? e with
    | some i=>match i.zero with
     | some z=>if 0<i.size∧z.cells.size=i.size∧Ak z=true then some (.mkv j i.size i.bytes z.cells.toList a b) else none
     | none=>none
    | none=>none
   | _=>none
  | .mk j _ _ _ _ _=>match P.underlying t with
   | some (.slice e)=>match P.info? e with
    | some i=>match i.zero with
     | some z=>if 0<i.size∧z.cells.size=i.size∧Ak z=true then some (.mk j i.size i.bytes z.cells.toList a b) else none
     | none=>none
    | none=>none
   | _=>none
  | _=>none
 | .slice t x lo hi mx=>match P.underlying t with
  | some (.slice e)=>match P.info? e with
   | some i=>if mx.isSome&&hi.isNone then none else some (.slice i.size x lo hi mx)
   | none=>none
  | _=>none
 | .call c=>Dy P c l
 | _=>none
def bW (P:Program):Nat→TypeId→Nat→Option (List (Nat × TypeDesc))
 | 0,_,_=>none
 | d+1,t,off=>match P.info? t,P.underlying t with
  | some it,some (.struct fs)=>if P.stoodInHeld t=false then (fs.toList.mapM fun (f:Field)=>match P.info? f.type with
    | some fi=>if f.name ≠ "_"∧f.offset+fi.size≤it.size∧0<fi.size then bW P d f.type (off+f.offset) else none
    | none=>none).map List.flatten else none
  | some it,some (.array n e)=>match P.info? e with
   | some ie=>if n*ie.size≤it.size∧0<ie.size then ((List.range n).mapM fun k=>bW P d e (off+k*ie.size)).map List.flatten else none
   | none=>none
  | some _,some kd=>if P.plainKey t=true then some [(off,kd)] else none
  | _,_=>none
def uC (P:Program) (t:TypeId):Bool :=
 match P.underlying t with
 | some (.struct _)=>true
 | some (.array _ _)=>true
 | _=>false
def Ae (P:Program) (o:Op) (p:Zp):Option LOp :=
 match p,o with
 | .pidx _ _,.indexAddr t x i=>match P.underlying t with
  | some (.array m e)=>match P.info? e with
   | some inf=>some (.prim (.pidx m inf.size) [x,i])
   | none=>none
  | _=>none
 | .pslc _ _ _ _,.slice t x lo hi mx=>match P.underlying t with
  | some (.array m e)=>match P.info? e with
   | some inf=>if inf.size=1∧(mx.isSome&&hi.isNone)=false∧m≤maxLen then some (.prim (.pslc m lo.isSome hi.isSome mx.isSome) (x::(lo.toList++hi.toList++mx.toList))) else none
   | none=>none
  | _=>none
 | .peq _,.binOp op t x y _=>match P.underlying t with
  | some (.pointer _)=>match op with
   | .eql=>some (.prim (.peq false) [x,y])
   | .neq=>some (.prim (.peq true) [x,y])
   | _=>none
  | _=>none
 | .aidx _ _ _,.index t x i=>match P.underlying t with
  | some (.array m e)=>match P.info? e,P.underlying e with
   | some inf,some d=>some (.prim (.aidx m inf.size d.isRow) [x,i])
   | _,_=>none
  | _=>none
 | .aeq _ _,.binOp op t x y _=>if P.eqGuardType P.depth t=false∧uC P t=true then match P.info? t,bW P 100 t 0,op with
   | some _,some ks,.eql=>some (.prim (.aeq false ks) [x,y])
   | some _,some ks,.neq=>some (.prim (.aeq true ks) [x,y])
   | _,_,_=>none
  else none
 | .sidx,.index t x i=>match P.underlying t with
  | some .string=>some (.prim .sidx [x,i])
  | _=>none
 | .sslc _ _,.slice t x lo hi none=>match P.underlying t with
  | some .string=>some (.prim (.sslc lo.isSome hi.isSome) (x::(lo.toList++hi.toList)))
  | _=>none
 | .sbin _,.binOp op t x y _=>match P.underlying t with
  | some .string=>some (.prim (.sbin op) [x,y])
  | _=>none
 | .mm _,.call c=>match c.callee,c.args.toList with
  | .builtin .min,x::r=>some (.prim (.mm false) (x::r))
  | .builtin .max,x::r=>some (.prim (.mm true) (x::r))
  | _,_=>none
 | .gidx _ _,.indexAddr t (.global g) i=>match P.underlying t with
  | some (.array m e)=>match P.info? e with
   | some inf=>if inf.size=1 then some (.prim (.gidx g m) [i]) else none
   | none=>none
  | _=>none
 | .s2a _,.sliceToArrayPointer t x=>match P.underlying t with
  | some (.array m _)=>some (.prim (.s2a m) [x])
  | _=>none
 | .cpl,.unOp .xor _ x=>some (.prim .cpl [x])
 | _,_=>none
def Hr (P:Program) (o:Op) (p:Eff) (j:Nat):Option LOp :=
 match p,o with
 | .clr _ _,.call c=>match c.callee,c.args.toList,c.argTypes.toList with
  | .builtin .clear,[x],[t]=>match P.underlying t with
   | some (.slice e)=>match P.info? e with
    | some i=>match i.zero with
     | some z=>if 0<i.size∧z.cells.size=i.size∧Ak z=true then some (.eff (.clr i.size z.cells.toList) j [x]) else none
     | none=>none
    | none=>none
   | _=>none
  | _,_,_=>none
 | .look _ _ _,.lookup t m k ok=>match P.underlying t with
  | some (.map kt e)=>match bW P 100 kt 0,P.info? e with
   | some ks,some i=>match i.zero with
    | some z=>if (ks.map (·.1))=List.range ks.length∧(P.info? kt).map (·.size)=some ks.length∧uC P kt=true then some (.eff (.look ks z ok) j [m,k]) else none
    | none=>none
   | _,_=>none
  | _=>none
 | .mset _,.mapUpdate t m k x|.mset _,.insert t m k x=>match P.underlying t with
  | some (.map kt _)=>match bW P 100 kt 0 with
   | some ks=>if (ks.map (·.1))=List.range ks.length∧(P.info? kt).map (·.size)=some ks.length∧uC P kt=true then some (.eff (.mset ks) j [m,k,x]) else none
   | none=>none
  | _=>none
 | .litv _ _ _ _,.buildSlice t n parts=>match P.underlying t with
  | some (.slice e)=>match P.info? e with
   | some i=>match i.zero with
    | some z=>if 0<i.size∧z.cells.size=i.size∧n*i.size≤16777216∧Ak z=true then some (.eff (.litv i.size n z.cells.toList (parts.toList.map (·.1))) j (parts.toList.map (·.2))) else none
    | none=>none
   | none=>none
  | _=>none
 | .appv _ _,.call c=>match c.callee,c.args.toList,c.argTypes.toList with
  | .builtin .append,[x,y],[t,t']=>if t=t' then match P.underlying t with
   | some (.slice e)=>match P.info? e with
    | some i=>match i.zero with
     | some z=>if 0<i.size∧z.cells.size=i.size∧0<i.bytes then some (.eff (.appv i.size i.bytes) j [x,y]) else none
     | none=>none
    | none=>none
   | _=>none
   else none
  | _,_,_=>none
 | .b2s,.convert s d x=>match P.underlying s,P.underlying d with
  | some (.slice e),some .string=>match P.underlying e with
   | some (.int .u8)=>some (.eff .b2s j [x])
   | _=>none
  | _,_=>none
 | .gload _ _,.load t (.global g)=>match P.underlying t,P.info? t with
  | some (.array m _),some inf=>if inf.size=m then some (.eff (.gload g m) j []) else none
  | _,_=>none
 | .cps,.call c=>match c.callee,c.args.toList,c.argTypes.toList with
  | .builtin .copy,[x,y],[t,t']=>match P.underlying t,P.underlying t' with
   | some (.slice e),some .string=>match P.info? e with
    | some i=>if i.size=1 then some (.eff .cps j [x,y]) else none
    | none=>none
   | _,_=>none
  | _,_,_=>none
 | .aps _,.call c=>match c.callee,c.args.toList,c.argTypes.toList with
  | .builtin .append,[x,y],[t,t']=>match P.underlying t,P.underlying t' with
   | some (.slice e),some .string=>match P.info? e with
    | some i=>match i.zero with
     | some z=>if i.size=1∧z.cells.size=1∧0<i.bytes then some (.eff (.aps i.bytes) j [x,y]) else none
     | none=>none
    | none=>none
   | _,_=>none
  | _,_,_=>none
 | _,_=>none
def rl (P:Program) (o:Op) (l:LOp):Option LOp :=
 match l with
 | .bad=>some .bad
 | .prim p _=>Ae P o p
 | .eff p j _=>Hr P o p j
 | l=>rl0 P o l
theorem Mf {P:Program} {o:Op} {l0 l:LOp} (h:rl P o l0=some l):l=.bad∨rl0 P o l0=some l∨(∃ p,Ae P o p=some l)∨∃ p j,Hr P o p j=some l:=by
 unfold rl at h
 split at h
 ·simp only [yaa] at h;exact .inl h.symm
 ·exact .inr (.inr (.inl ⟨_,h⟩))
 ·exact .inr (.inr (.inr ⟨_,_,h⟩))
 ·exact .inr (.inl h)
def bH:LOp→Bool
 | .mov _|.pick _ _ _|.load _ _|.fld _ _|.idx _ _ _|.bin _ _ _ _|.len _|.lens _|.nilc _|.not _|.neg _|.conv _ _ _|.minmax _ _ _|.shift _ _ _|.ext _ _|.fn _ _|.field _ _ _|.slice _ _ _ _ _|.build _ _|.eqb _ _ _|.eqf _ _ _ _|.eqn _ _ _|.prim _ _=>true
 | _=>false
def Ext (w w':World):Prop:=∀ b,b<w.heap.size→w'.heap[b]?=w.heap[b]?
theorem Ext.refl (w:World):Ext w w:=fun _ _=>rfl
def anL (P:Program) (o:Oper) (a:Act) (w:World) (val:Value):Prop :=
 ∀ w',Ext w w'→(execOp a.eval o).run P w'=.ok (.value val) w'
theorem Addr.add_none (b o j:Nat):(⟨b,o,none⟩:Addr).add j=⟨b,o+j,none⟩:=Addr.add_mid b o j
theorem run_indexAt {P:Program} {w:World} {t e:TypeId} {inf:TypeInfo} {k:IntKind} {n:Int} {b o len cap:Nat} (ht:P.underlying t=some (.slice e)) (hi:P.info? e=some inf) (h0:0≤n) (h1:n<len) :
  (Instr.indexAt t (.slice (some ⟨b,o,none⟩) len cap) (.int k n)).run P w=.ok (.pointer (some ⟨b,o+n.toNat*inf.size,none⟩)) w:=by
 simp [Instr.indexAt,asIntOf,run_underlying ht,h0,h1,sizeOf,typeInfo,hi,Addr.add_none]
theorem Bj {P:Program} {w:World} {s:TypeId} {fs:Array Field} {f:Nat} {fd:Field} {inf:TypeInfo} {b o:Nat} (hs:P.underlying s=some (.struct fs)) (hf:fs[f]?=some fd) (hi:P.info? fd.type=some inf) (hz:inf.size≠0) :
  (Instr.fieldAt s (.pointer (some ⟨b,o,none⟩)) f).run P w=.ok (.pointer (some ⟨b,o+fd.offset,none⟩)) w:=by
 simp [Instr.fieldAt,run_underlying hs,hf,Instr.sureAddr,fieldPlace,sizeOf,typeInfo,hi,hz,Addr.add_none]
theorem nT {P:Program} {w:World} {t:TypeId} {d:TypeDesc} (h:P.underlying t=some d):(isAgg t).run P w=.ok d.isRow w:=by
 unfold isAgg
 rw [Sem.run_bind,run_underlying h w]
 cases d<;>simp [TypeDesc.isRow]
theorem Sw {P:Program} {w:World} {t:TypeId} {d:TypeDesc} {b o:Nat} {val:Value} (h:P.underlying t=some d) (hd:d.isRow=false) (hc:w.cell? ⟨b,o,none⟩=some val) :
  (Instr.loadAt t (.pointer (some ⟨b,o,none⟩))).run P w=.ok val w:=by
 simp [Instr.loadAt,Instr.sureAddr,loadVar,nT h,hd,load,Sem.run,hc]
theorem Sv {P:Program} {w:World} {t:TypeId} {d:TypeDesc} {b o:Nat} {inf:TypeInfo} (h:P.underlying t=some d) (hd:d.isRow=true) (hi:P.info? t=some inf) (cs:List Value) (hl:cs.length=inf.size)
  (hc:∀ j v,cs[j]?=some v→w.cell? ⟨b,o+j,none⟩=some v) :
  (Instr.loadAt t (.pointer (some ⟨b,o,none⟩))).run P w=.ok (.agg cs.toArray) w :=
 run_loadAt_mid w b o t cs d hc h hd (by rw [hi];simp [hl])
section
variable {ρ:Nat→Loc} {X:Nat→Prop} {w:World} {P:Program}
theorem Ext.cell {w w':World} (h:Ext w w') {b o:Nat} {v:Value} (hc:w.cell? ⟨b,o,none⟩=some v):w'.cell? ⟨b,o,none⟩=some v:=by
 have hb:b<w.heap.size:=World.block_lt_of_cell? w ⟨b,o,none⟩ hc
 rw [cell_of_heap (h b hb)]
 exact hc
def Nz (b:Nat) (w w':World):Prop:=b<w.heap.size→w'.heap[b]?=w.heap[b]?
theorem Nz.cell {w w':World} {b o:Nat} (h:Nz b w w') {v:Value} (hc:w.cell? ⟨b,o,none⟩=some v):w'.cell? ⟨b,o,none⟩=some v:=by
 have hb:b<w.heap.size:=World.block_lt_of_cell? w ⟨b,o,none⟩ hc
 rw [cell_of_heap (h hb)]
 exact hc
theorem Hd {b off:Nat} {cs:List V} (hg:∀ (f:Nat) (x:V),cs[f]?=some x→∃ val,w.cell? ⟨b,off+f,none⟩=some val∧aX ρ X w x val) :
  ∃ vs:List Value,vs.length=cs.length∧(∀ j v,vs[j]?=some v→w.cell? ⟨b,off+j,none⟩=some v)∧bL ρ X w cs vs:=by
 induction cs generalizing off with
 | nil=>exact ⟨[],rfl,fun j v h=>by simp at h,trivial⟩
 | cons x r ih =>
  obtain ⟨val,h1,h2⟩:=hg 0 x rfl
  obtain ⟨vs,h3,h4,h5⟩:=ih (off:=off+1) (fun f y hy=>by
   obtain ⟨v,h6,h7⟩:=hg (f+1) y (by simpa using hy)
   exact ⟨v,by rw [show off+1+f=off+(f+1) by omega];exact h6,h7⟩)
  refine ⟨val::vs,by simp [h3],fun j v hv=>?_,h2,h5⟩
  cases j with
  | zero=>simp at hv;subst hv;simpa using h1
  | succ j =>
   have:=h4 j v (by simpa using hv)
   rw [show off+(j+1)=off+1+j by omega]
   exact this
theorem o8 {t:TypeId} {n:Option Nat} {b off f:Nat} {cs:List V} {K:V→Prop} {inf:TypeInfo} {d:TypeDesc}
  (hi:P.info? t=some inf) (hu:P.underlying t=some d) (hn:(if d.isRow then some inf.size else none)=n)
  (hg:∀ (g:Nat) (x:V),cs[g]?=some x→∃ val,w.cell? ⟨b,off+g,none⟩=some val∧aX ρ X w x val)
  (h:bX n f cs K):∃ x val,K x∧aX ρ X w x val∧∀ w',Nz b w w'→(Instr.loadAt t (.pointer (some ⟨b,off+f,none⟩))).run P w'=.ok val w':=by
 by_cases hd:d.isRow=true
 ·rw [if_pos hd] at hn
  subst hn
  obtain ⟨h1,h2⟩:=h
  obtain ⟨vs,h3,h4,h5⟩:=Hd (ρ:=ρ) (X:=X) (w:=w) (b:=b) (off:=off+f) (cs:=(cs.drop f).take inf.size) (fun g x hx=>by
   have hx':cs[f+g]?=some x:=by
    rw [yaw] at hx
    split at hx
    ·simpa using hx
    ·simp at hx
   obtain ⟨v,h6,h7⟩:=hg (f+g) x hx'
   exact ⟨v,by rw [show off+f+g=off+(f+g) by omega];exact h6,h7⟩)
  have hl:vs.length=inf.size:=by rw [h3];simp;omega
  refine ⟨_,.agg vs.toArray,h2,⟨vs.toArray,rfl,h5⟩,fun w' he=>?_⟩
  exact Sv hu hd hi vs hl (fun j v hv=>he.cell (h4 j v hv))
 ·rw [if_neg hd] at hn
  subst hn
  simp only [bX] at h
  cases hx:cs[f]? with
  | none=>rw [hx] at h;exact h.elim
  | some x =>
   rw [hx] at h
   obtain ⟨v,h6,h7⟩:=hg f x hx
   exact ⟨x,v,h,h7,fun w' he=>Sw hu (by simpa using hd) (he.cell h6)⟩
theorem Lt {cs:List V} {b:Nat} {c:Array Value} {T:TypeId} {fz:Nat × Nat} (hh:w.heap[b]?=some (.cells c T fz)) (hl:bL ρ X w cs c.toList) :
  ∀ (g:Nat) (x:V),cs[g]?=some x→∃ val,w.cell? ⟨b,0+g,none⟩=some val∧aX ρ X w x val:=by
 intro g x hx
 obtain ⟨v,h1,h2⟩:=cG hl hx
 refine ⟨v,?_,h2⟩
 simp [World.cell?,hh]
 simpa using h1
theorem Bh {sz b off i:Nat} {els:List (List V)} {e:List V} (hl:cP (Sta ρ X w) w sz b off els) (he:els[i]?=some e) :
  ∀ (g:Nat) (x:V),e[g]?=some x→∃ val,w.cell? ⟨b,off+i*sz+g,none⟩=some val∧aX ρ X w x val:=by
 intro g x hx
 obtain ⟨_,h1⟩:=eO hl he
 obtain ⟨v,h2,h3⟩:=gQ h1 hx
 exact ⟨v,h2,oN h3⟩
def Zq (ρ:Nat→Loc) (w:World) (p:V) (b:Nat):Prop :=
 match p with
 | .ptr k _ _=>(ρ k).real=true∧(ρ k).blk=b
 | .rp _ _ _ _=>Len ρ w b
 | _=>False
theorem Kh {t:TypeId} {n:Option Nat} {h:List Blk} {p:V} {pv:Value} {K:V→Prop} {inf:TypeInfo} {d:TypeDesc}
  (hr:Rep ρ X w h) (hi:P.info? t=some inf) (hu:P.underlying t=some d) (hn:(if d.isRow then some inf.size else none)=n)
  (hp:aX ρ X w p pv) (hk:hJ h n p K):∃ x val,K x∧aX ρ X w x val∧∃ b,Zq ρ w p b∧∀ w',Nz b w w'→(Instr.loadAt t pv).run P w'=.ok val w':=by
 cases p with
 | ptr k i f =>
  obtain ⟨h1,rfl⟩:=hp
  simp only [hJ,blk] at hk
  cases hb:h[k]? with
  | none=>simp [hb,pQ] at hk
  | some B =>
   have hB:=hr.blk k B hb
   rw [yam,hb] at hk
   cases B with
   | dead=>exact hk.elim
   | var cs =>
    obtain ⟨⟨_,hoff,hsz⟩,c,T,hh,hl,_⟩:=hB
    have h2:bX n (i+f) cs K:=hk
    obtain ⟨x,val,g1,g2,g3⟩:=o8 (ρ:=ρ) (X:=X) hi hu hn (b:=(ρ k).blk) (off:=0) (Lt hh hl) h2
    exact ⟨x,val,g1,g2,_,⟨h1,rfl⟩,fun w' hw'=>by simpa [hoff,hsz] using g3 w' hw'⟩
   | arr sz els =>
    obtain ⟨⟨hsz,hpos⟩,hor⟩:=hB
    obtain ⟨hlt,h2⟩:∃ hi:i<els.length,bX n f (els[i]'hi) K:=hk
    rcases hor with ⟨_,rfl⟩|⟨_,c,T,hh,hc,hroom,hels⟩
    ·simp at hlt
    ·obtain ⟨x,val,g1,g2,g3⟩:=o8 (ρ:=ρ) (X:=X) hi hu hn (Bh hels (yaf hlt)) h2
     exact ⟨x,val,g1,g2,_,⟨h1,rfl⟩,fun w' hw'=>by rw [hsz];exact g3 w' hw'⟩
   | arv sz els =>
    obtain ⟨⟨hsz,hpos⟩,_,c,T,hh,hc,hroom,hels⟩:=hB
    obtain ⟨hlt,h2⟩:∃ hi:i<els.length,bX n f (els[i]'hi) K:=hk
    obtain ⟨x,val,g1,g2,g3⟩:=o8 (ρ:=ρ) (X:=X) hi hu hn (b:=(ρ k).blk) (off:=(ρ k).off+i*sz) (fun g x hx=>by
     obtain ⟨u,h3,h4⟩:=(hels i _ (yaf hlt)).2 g x hx
     exact ⟨u,by simpa [World.cell?,hh] using h3,h4⟩) h2
    exact ⟨x,val,g1,g2,_,⟨h1,rfl⟩,fun w' hw'=>by rw [hsz];exact g3 w' hw'⟩
   | map _ _=>exact hk.elim
   | it _ _ _ _=>exact hk.elim
   | rcd _ _=>exact hk.elim
 | rp sz els i f =>
  obtain ⟨b,off,rfl,h1,h2⟩:=hp
  obtain ⟨hlt,h3⟩:=hk
  obtain ⟨x,val,g1,g2,g3⟩:=o8 (ρ:=ρ) (X:=X) hi hu hn (Bh h2 (yaf hlt)) h3
  exact ⟨x,val,g1,g2,b,h1,g3⟩
 | _=>exact hk.elim
theorem Xa {t:TypeId} {n:Option Nat} {h:List Blk} {p:V} {pv:Value} {K:V→Prop} {inf:TypeInfo} {d:TypeDesc}
  (hr:Rep ρ X w h) (hi:P.info? t=some inf) (hu:P.underlying t=some d) (hn:(if d.isRow then some inf.size else none)=n)
  (hp:aX ρ X w p pv) (hk:hJ h n p K):∃ x val,K x∧aX ρ X w x val∧∀ w',Ext w w'→(Instr.loadAt t pv).run P w'=.ok val w':=by
 obtain ⟨x,val,h1,h2,b,_,h3⟩:=Kh hr hi hu hn hp hk
 exact ⟨x,val,h1,h2,fun w' hw'=>h3 w' (hw' b)⟩
theorem Ps {op:BinOp} {ex:Bool} {t:TypeId} {k:IntKind} {a b:Int} {K:V→Prop} (hk:cK op ex k a b K) (Rm:∀ c:Int,lo k≤c∧c≤hi k→k.wrap c=c) :
  ∃ x val,K x∧aX ρ X w x val∧∀ w',(binOp op t (.int k a) (.int k b)).run P w'=.ok val w':=by
 cases op<;>simp only [cK] at hk<;>try exact hk.elim
 case add|sub|mul =>
  split at hk
  ·exact ⟨_,_,hk.2,rfl,fun w'=>by simp [binOp,Op.intArith,Rm _ hk.1]⟩
  ·exact ⟨_,_,hk,rfl,fun w'=>by simp [binOp,Op.intArith]⟩
 case quo =>
  obtain ⟨h0,hk⟩:=hk
  split at hk
  ·exact ⟨_,_,hk.2,rfl,fun w'=>by simp [binOp,Op.intDiv,h0,Rm _ hk.1]⟩
  ·exact ⟨_,_,hk,rfl,fun w'=>by simp [binOp,Op.intDiv,h0]⟩
 case rem =>
  obtain ⟨h0,hk⟩:=hk
  exact ⟨_,_,hk,rfl,fun w'=>by simp [binOp,Op.intDiv,h0]⟩
 case and|or|xor|andNot=>exact ⟨_,_,hk,rfl,fun w'=>by simp [binOp,Op.intBits]⟩
 all_goals exact ⟨_,_,hk,rfl,fun w'=>by simp [binOp,Op.intCmp]⟩
theorem cV {x:V} {K:IntKind→Int→Prop} (h:cE x K):∃ k a,x=.v (.int k a)∧K k a:=by
 unfold cE at h
 split at h
 ·exact ⟨_,_,rfl,h⟩
 ·exact h.elim
theorem oS (k:IntKind) (c:Int) (h:lo k≤c∧c≤hi k):k.wrap c=c:=by
 cases k<;>simp only [lo,hi] at h<;>simp [IntKind.wrap,IntKind.signed,IntKind.bits]<;>omega
theorem run_len_slice {t e:TypeId} {ty:TypeId} {a:Option Addr} {n c:Nat} (ht:P.underlying t=some (.slice e)) (w':World) :
  (Builtin.len_ #[t] ty #[.slice a n c]).run P w'=.ok (.int .i64 n) w':=by
 simp [Builtin.len_,run_underlying ht,goInt]
theorem bM {α:Type} {xs:Array α} {l:List α} (h:xs.toList=l):xs=l.toArray:=by subst h;simp
theorem Xf {t ty e:TypeId} {x:V} {val:Value} {K:V→Prop} (hu:P.underlying t=some (.slice e)) (hx:aX ρ X w x val) (hk:Fa x K) :
  ∃ y u,K y∧aX ρ X w y u∧∀ w',(Builtin.len_ #[t] ty #[val]).run P w'=.ok u w':=by
 unfold Fa at hk
 split at hk
 ·obtain ⟨cap,h1,h2,h3⟩:=hx
  refine ⟨_,_,hk (by omega),rfl,fun w'=>?_⟩
  rcases h3 with ⟨h4,a,rfl⟩|⟨_,rfl,_⟩
  ·rw [run_len_slice hu]
   simp;omega
  ·rw [run_len_slice hu]
 ·obtain ⟨a,len,cap,rfl,rfl,h3,h4,_⟩:=hx
  exact ⟨_,_,hk (by omega),rfl,fun w'=>run_len_slice hu w'⟩
 ·obtain ⟨a,len,cap,rfl,rfl,h3,h4,_⟩:=hx
  exact ⟨_,_,hk (by omega),rfl,fun w'=>run_len_slice hu w'⟩
 ·obtain ⟨a,len,rfl,rfl,h3,_⟩:=hx
  exact ⟨_,_,hk (by omega),rfl,fun w'=>run_len_slice hu w'⟩
 ·have hx':val=.slice none 0 0:=hx
  subst hx'
  exact ⟨_,_,hk,rfl,fun w'=>run_len_slice hu w'⟩
 ·exact hk.elim
theorem Ix {h:List Blk} (hr:Rep ρ X w h) {j z:Nat} (h1:dB z (blk h j)):(ρ j).sz=z:=by
 unfold dB blk at h1
 rw [yam] at h1
 cases hb:h[j]? with
 | none=>simp [hb] at h1
 | some B =>
  rw [hb] at h1
  have hB:=hr.blk j B hb
  cases B with
  | arr s els =>
   obtain ⟨⟨h4,_⟩,_⟩:=hB
   exact h4.trans h1
  | arv s els =>
   obtain ⟨⟨h4,_⟩,_⟩:=hB
   exact h4.trans h1
  | var cs =>
   obtain ⟨⟨_,_,h4⟩,_⟩:=hB
   exact h4.trans h1
  | _=>exact h1.elim
theorem Xr {t e:TypeId} {inf:TypeInfo} {h:List Blk} {x:V} {val:Value} {k:IntKind} {n:Int} {K:V→Prop} (ht:P.underlying t=some (.slice e)) (hi:P.info? e=some inf) (hr:Rep ρ X w h) (hx:aX ρ X w x val) (hk:Fk h inf.size n x K) :
  ∃ y u,K y∧aX ρ X w y u∧∀ w',(Instr.indexAt t val (.int k n)).run P w'=.ok u w':=by
 unfold Fk at hk
 split at hk
 ·rename_i j i0 m
  obtain ⟨h1,h2,h3⟩:=hk
  have hsz:=Ix hr h1
  obtain ⟨cap,h4,h5,h6⟩:=hx
  rcases h6 with ⟨rfl,a,rfl⟩|⟨hreal,rfl,hroom⟩
  ·omega
  ·refine ⟨_,_,h3,⟨hreal,rfl⟩,fun w'=>?_⟩
   rw [run_indexAt ht hi h2.1 h2.2]
   simp only [Result.ok.injEq,Value.pointer.injEq,yaa,Addr.mk.injEq,true_and,and_true]
   rw [hsz,yak]
   omega
 all_goals first|(exact hk.elim;done)|skip
 all_goals
  obtain ⟨h1,h2,h3⟩:=hk
  subst h1
 ·obtain ⟨a,len,cap,rfl,rfl,h4,h5,h6⟩:=hx
  rcases h6 with rfl|⟨b,off,rfl,h7,h8⟩
  ·simp at h2;omega
  ·exact ⟨_,_,h3,⟨b,off,rfl,⟨h7.1,h7.2.1⟩,h8⟩,fun w'=>by rw [run_indexAt ht hi h2.1 h2.2];simp⟩
 ·obtain ⟨a,len,cap,rfl,rfl,h4,h5,h6⟩:=hx
  rcases h6 with rfl|⟨b,off,rfl,h7,h8⟩
  ·simp at h2;omega
  ·exact ⟨_,_,h3,⟨b,off,rfl,h7,h8⟩,fun w'=>by rw [run_indexAt ht hi h2.1 h2.2];simp⟩
 ·obtain ⟨a,len,rfl,rfl,h4,h6⟩:=hx
  rcases h6 with rfl|⟨b,off,rfl,h7,h8⟩
  ·simp at h2;omega
  ·exact ⟨_,_,h3,⟨b,off,rfl,h7,h8⟩,fun w'=>by rw [run_indexAt ht hi h2.1 h2.2];simp⟩
theorem Ba {x:V} {K:Bool→Prop} (h:rJ x K):∃ t,x=.v (.bool t)∧K t:=by
 unfold rJ at h
 split at h
 ·exact ⟨_,rfl,h⟩
 ·exact h.elim
theorem Wi {o:Option V} {K:Option Int→Prop} (h:Al o K):(o=none∧K none)∨∃ k n,o=some (.v (.int k n))∧K (some n):=by
 unfold Al at h
 split at h
 ·exact .inl ⟨rfl,h⟩
 ·exact .inr ⟨_,_,rfl,h⟩
 ·exact h.elim
def dL (o:Option Value) (n:Option Int):Prop:=(o=none∧n=none)∨∃ k i,o=some (.int k i)∧n=some i
theorem Pq {e:Env} {a:Act} (he:cS ρ X w e a.tmps) {o:Option Operand} {K:Option Int→Prop} (h:Al (o.map (ev e)) K):∃ n,dL (o.map a.eval) n∧K n:=by
 rcases Wi h with ⟨h1,h2⟩|⟨k,n,h1,h2⟩
 ·cases o with
  | none=>exact ⟨none,.inl ⟨rfl,rfl⟩,h2⟩
  | some x=>simp at h1
 ·cases o with
  | none=>simp at h1
  | some x =>
   simp only [yax,yaa] at h1
   have:=aT he x
   rw [h1] at this
   have this':a.eval x=.int k n:=this
   exact ⟨some n,.inr ⟨k,n,by simp [this'],rfl⟩,h2⟩
theorem dT {v:Value} {k:IntKind} {n:Int} {y:Nat} {code:BoundsCode} {w':World} (hv:v=.int k n) (h0:0≤n) (h1:n≤y):(Instr.sliceBound v y code).run P w'=.ok n.toNat w':=by
 subst hv
 simp [Instr.sliceBound,asIntOf,h0,h1]
theorem iV {t e:TypeId} {inf:TypeInfo} {a:Option Addr} {len cap:Nat} {lo hi mx:Option Value} {l u m:Option Int} (ht:P.underlying t=some (.slice e)) (hi':P.info? e=some inf) (hl:dL lo l) (hu:dL hi u) (hm:dL mx m)
  (hok:bN len l u m) (hmx:mx≠none→hi≠none) (hlc:len≤cap) :
  ∃ c,(u.getD len).toNat≤c∧(c≤cap∧∀ x,m=some x→c=x.toNat)∧∀ w',
   (Instr.sliceAt t (.slice a len cap) lo hi mx).run P w'=.ok (.slice (if c=(l.getD 0).toNat then a else a.map (·.add ((l.getD 0).toNat*inf.size))) ((u.getD len).toNat-(l.getD 0).toNat) (c-(l.getD 0).toNat)) w':=by
 obtain ⟨⟨h1,h2⟩,h3,h4⟩:=hok
 have hrun:∀ (w':World) (x:Nat × Nat × Nat),(Instr.sliceBounds true len cap lo hi mx).run P w'=.ok x w' →
   (Instr.sliceAt t (.slice a len cap) lo hi mx).run P w'=.ok (.slice (if x.2.2=x.1 then a else a.map (·.add (x.1*inf.size))) (x.2.1-x.1) (x.2.2-x.1)) w':=by
  intro w' x hx
  simp [Instr.sliceAt,Instr.slice,run_underlying ht,hx,sizeOf,typeInfo,hi']
 rcases hm with ⟨rfl,rfl⟩|⟨km,im,rfl,rfl⟩
 ·simp only [yal] at h3 h4
  refine ⟨cap,by omega,⟨yae _,fun x hx=>by cases hx⟩,fun w'=>hrun w' ((l.getD 0).toNat,(u.getD len).toNat,cap) ?_⟩
  rcases hu with ⟨rfl,rfl⟩|⟨ku,iu,rfl,rfl⟩<;>rcases hl with ⟨rfl,rfl⟩|⟨kl,il,rfl,rfl⟩<;>simp only [yal,yai] at h1 h2 h3
  ·simp [Instr.sliceBounds]
  ·simp [Instr.sliceBounds,dT (P:=P) rfl h1 h2]
  ·simp [Instr.sliceBounds,dT (P:=P) rfl h2 (show iu≤(cap:Int) by omega)]
  ·have e1:(iu.toNat:Int)=iu:=by omega
   simp [Instr.sliceBounds,dT (P:=P) rfl (show 0≤iu by omega) (show iu≤(cap:Int) by omega),dT (P:=P) rfl h1 (show il≤(iu.toNat:Int) by omega)]
 ·simp only [yai] at h3 h4
  rcases hu with ⟨rfl,rfl⟩|⟨ku,iu,rfl,rfl⟩
  ·exact absurd rfl (hmx (by simp))
  ·simp only [yai] at h2 h3
   have b1:∀ w' code,(Instr.sliceBound (.int km im) cap code).run P w'=.ok im.toNat w':=fun w' code=>dT rfl (by omega) (by omega)
   have b2:∀ w' code,(Instr.sliceBound (.int ku iu) im.toNat code).run P w'=.ok iu.toNat w':=fun w' code=>dT rfl (by omega) (by omega)
   refine ⟨im.toNat,by simp;omega,⟨by omega,fun x hx=>by cases hx;rfl⟩,fun w'=>hrun w' ((l.getD 0).toNat,iu.toNat,im.toNat) ?_⟩
   rcases hl with ⟨rfl,rfl⟩|⟨kl,il,rfl,rfl⟩<;>simp only [yal,yai] at h1 h2
   ·simp [Instr.sliceBounds,b1,b2]
   ·have b3:∀ w' code,(Instr.sliceBound (.int kl il) iu.toNat code).run P w'=.ok il.toNat w':=fun w' code=>dT rfl (by omega) (by omega)
    simp [Instr.sliceBounds,b1,b2,b3]
theorem mB {S:Nat→Prop} {sz b off l n:Nat} {els:List (List V)} (h:cP S w sz b off els):cP S w sz b (off+l*sz) ((els.drop l).take n) :=
 eH fun j e he=>by
  have he':els[l+j]?=some e:=by
   rw [yaw] at he
   split at he
   ·simpa using he
   ·cases he
  have:=eO h he'
  rw [yak] at this
  rw [yan]
  exact this
theorem Vd {t e:TypeId} {inf:TypeInfo} {h:List Blk} {x:V} {val:Value} {lo hi mx:Option Value} {l u m:Option Int} {K:V→Prop} (ht:P.underlying t=some (.slice e)) (hi':P.info? e=some inf) (hr:Rep ρ X w h) (hx:aX ρ X w x val)
  (hl:dL lo l) (hu:dL hi u) (hm:dL mx m) (hmx:mx≠none→hi≠none) (hk:z7 h inf.size x l u m K) :
  ∃ y v,K y∧aX ρ X w y v∧∀ w',(Instr.sliceAt t val lo hi mx).run P w'=.ok v w':=by
 unfold z7 at hk
 split at hk
 ·rename_i j i0 n
  obtain ⟨h1,hok,h3⟩:=hk
  have hsz:=Ix hr h1
  obtain ⟨cap,h4,h5,h6⟩:=hx
  have hok':=hok
  obtain ⟨⟨g1,g2⟩,g3,g4⟩:=hok'
  rcases h6 with ⟨rfl,a,rfl⟩|⟨hreal,rfl,hroom⟩
  ·have hn:n=0:=by omega
   subst hn
   obtain ⟨c,c1,⟨c2,c3⟩,hrun⟩:=iV (a:=a) ht hi' hl hu hm hok hmx (yae 0)
   have hc:c=0:=by omega
   subst hc
   have hl0:(l.getD 0).toNat=0:=by omega
   have hu0:(u.getD (0:Nat)).toNat=0:=by omega
   refine ⟨_,_,h3,⟨0,by omega,yah _,.inl ⟨rfl,a,rfl⟩⟩,fun w'=>?_⟩
   rw [hrun w',hl0,hu0]
   simp
  ·obtain ⟨c,c1,⟨c2,c3⟩,hrun⟩:=iV (a:=some ⟨(ρ j).blk,(ρ j).off+i0*(ρ j).sz,none⟩) ht hi' hl hu hm hok hmx h4
   by_cases hc:c=(l.getD 0).toNat
   ·refine ⟨_,_,h3,⟨0,by omega,yah _,.inl ⟨rfl,some ⟨(ρ j).blk,(ρ j).off+i0*(ρ j).sz,none⟩,rfl⟩⟩,fun w'=>?_⟩
    rw [hrun w',if_pos hc]
    congr 2<;>omega
   ·refine ⟨_,_,h3,⟨c-(l.getD 0).toNat,by omega,by omega,.inr ⟨hreal,rfl,?_⟩⟩,fun w'=>?_⟩
    ·have:(i0+(l.getD 0).toNat+(c-(l.getD 0).toNat))*(ρ j).sz≤(i0+cap)*(ρ j).sz:=yaP _ (by omega)
     omega
    ·rw [hrun w',if_neg hc]
     simp only [yax,Addr.add_none,hsz,yak,yan]
 ·rename_i sz els
  obtain ⟨rfl,hok,h3⟩:=hk
  obtain ⟨a,len,cap,rfl,rfl,h4,h5,h6⟩:=hx
  obtain ⟨c,c1,⟨c2,c3⟩,hrun⟩:=iV (a:=a) ht hi' hl hu hm hok hmx h4
  obtain ⟨⟨g1,g2⟩,g3,g4⟩:=hok
  have hels:(yaq ((u.getD (els.length:Nat)).toNat-(l.getD 0).toNat) (yar (l.getD 0).toNat els)=[]∨∃ b off,(if c=(l.getD 0).toNat then a else a.map (·.add ((l.getD 0).toNat*inf.size)))=some ⟨b,off,none⟩∧Sta ρ X w b∧cP (Sta ρ X w) w inf.size b off (yaq ((u.getD (els.length:Nat)).toNat-(l.getD 0).toNat) (yar (l.getD 0).toNat els))):=by
   rcases h6 with rfl|⟨b,off,rfl,h7,h8⟩
   ·exact .inl (by simp)
   ·by_cases hc:c=(l.getD 0).toNat
    ·left
     have:(u.getD (els.length:Nat)).toNat-(l.getD 0).toNat=0:=by omega
     rw [this]
     simp
    ·exact .inr ⟨b,off+(l.getD 0).toNat*inf.size,by simp [hc,Addr.add_none],h7,mB h8⟩
  have hro:aX ρ X w (.ro inf.size (yaq ((u.getD (els.length:Nat)).toNat-(l.getD 0).toNat) (yar (l.getD 0).toNat els))) (.slice (if c=(l.getD 0).toNat then a else a.map (·.add ((l.getD 0).toNat*inf.size))) ((u.getD (els.length:Nat)).toNat-(l.getD 0).toNat) (c-(l.getD 0).toNat)) :=
   ⟨_,_,_,rfl,by simp;omega,by omega,by omega,hels⟩
  refine ⟨_,_,h3,?_,fun w'=>hrun w'⟩
  unfold roF
  split
  ·exact hro
  ·rename_i m'
   split
   ·rename_i hcond
    obtain ⟨hu2,hm2⟩:=hcond
    have hcm:=c3 _ rfl
    have hcap:c-(l.getD 0).toNat=(u.getD (els.length:Nat)).toNat-(l.getD 0).toNat:=by rw [hcm,hu2];rfl
    rw [hcap]
    refine ⟨_,_,rfl,by simp;omega,by omega,?_⟩
    rcases hels with h|⟨b,off,h7,h8,h9⟩
    ·exact .inl h
    ·exact .inr ⟨b,off,h7,⟨h8.1,h8.2.1⟩,h9⟩
   ·exact hro
 ·rename_i sz els
  obtain ⟨rfl,hok,h3⟩:=hk
  obtain ⟨a,len,cap,rfl,rfl,h4,h5,h6⟩:=hx
  obtain ⟨c,c1,⟨c2,c3⟩,hrun⟩:=iV (a:=a) ht hi' hl hu hm hok hmx h4
  obtain ⟨⟨g1,g2⟩,g3,g4⟩:=hok
  have hels:(yaq ((u.getD (els.length:Nat)).toNat-(l.getD 0).toNat) (yar (l.getD 0).toNat els)=[]∨∃ b off,(if c=(l.getD 0).toNat then a else a.map (·.add ((l.getD 0).toNat*inf.size)))=some ⟨b,off,none⟩∧Len ρ w b∧cP (Sta ρ X w) w inf.size b off (yaq ((u.getD (els.length:Nat)).toNat-(l.getD 0).toNat) (yar (l.getD 0).toNat els))):=by
   rcases h6 with rfl|⟨b,off,rfl,h7,h8⟩
   ·exact .inl (by simp)
   ·by_cases hc:c=(l.getD 0).toNat
    ·left
     have:(u.getD (els.length:Nat)).toNat-(l.getD 0).toNat=0:=by omega
     rw [this]
     simp
    ·exact .inr ⟨b,off+(l.getD 0).toNat*inf.size,by simp [hc,Addr.add_none],h7,mB h8⟩
  have hro:aX ρ X w (.bro inf.size (yaq ((u.getD (els.length:Nat)).toNat-(l.getD 0).toNat) (yar (l.getD 0).toNat els))) (.slice (if c=(l.getD 0).toNat then a else a.map (·.add ((l.getD 0).toNat*inf.size))) ((u.getD (els.length:Nat)).toNat-(l.getD 0).toNat) (c-(l.getD 0).toNat)) :=
   ⟨_,_,_,rfl,by simp;omega,by omega,by omega,hels⟩
  refine ⟨_,_,h3,?_,fun w'=>hrun w'⟩
  unfold Cj
  split
  ·exact hro
  ·rename_i m'
   split
   ·rename_i hcond
    obtain ⟨hu2,hm2⟩:=hcond
    have hcm:=c3 _ rfl
    have hcap:c-(l.getD 0).toNat=(u.getD (els.length:Nat)).toNat-(l.getD 0).toNat:=by rw [hcm,hu2];rfl
    rw [hcap]
    exact ⟨_,_,rfl,by simp;omega,by omega,hels⟩
   ·exact hro
 ·rename_i sz els
  obtain ⟨rfl,hok,h3⟩:=hk
  obtain ⟨a,len,rfl,rfl,h5,h6⟩:=hx
  obtain ⟨c,c1,⟨c2,c3⟩,hrun⟩:=iV (a:=a) ht hi' hl hu hm hok hmx (yae _)
  obtain ⟨⟨g1,g2⟩,g3,g4⟩:=hok
  refine ⟨_,_,h3,⟨_,_,_,rfl,by simp;omega,by omega,by omega,?_⟩,fun w'=>hrun w'⟩
  rcases h6 with rfl|⟨b,off,rfl,h7,h8⟩
  ·exact .inl (by simp)
  ·by_cases hc:c=(l.getD 0).toNat
   ·left
    have:(u.getD (els.length:Nat)).toNat-(l.getD 0).toNat=0:=by omega
    rw [this]
    simp
   ·exact .inr ⟨b,off+(l.getD 0).toNat*inf.size,by simp [hc,Addr.add_none],h7,mB h8⟩
 ·obtain ⟨hok,h3⟩:=hk
  have hx':val=.slice none 0 0:=hx
  subst hx'
  obtain ⟨c,c1,⟨c2,c3⟩,hrun⟩:=iV (a:=none) ht hi' hl hu hm hok hmx (yae 0)
  obtain ⟨⟨g1,g2⟩,g3,g4⟩:=hok
  have hc:c=0:=by omega
  subst hc
  have hl0:(l.getD 0).toNat=0:=by omega
  have hu0:(u.getD (0:Nat)).toNat=0:=by omega
  refine ⟨_,_,h3,rfl,fun w'=>?_⟩
  rw [hrun w',hl0,hu0]
  simp
 ·exact hk.elim
theorem Yh {x:V} {val:Value} {K:Bool→Prop} (hx:aX ρ X w x val) (hk:Hb x K) :
  ∃ b a n c,val=.slice a n c∧b=a.isNone∧K b:=by
 unfold Hb at hk
 split at hk
 ·obtain ⟨cap,h4,h5,h6⟩:=hx
  rcases h6 with ⟨rfl,a,rfl⟩|⟨hreal,rfl,hroom⟩
  ·obtain ⟨k1,k2⟩:=hk.2 (by omega)
   exact ⟨_,a,0,0,rfl,rfl,by cases a<;>assumption⟩
  ·rename_i k i n
   refine ⟨_,_,_,_,rfl,rfl,?_⟩
   by_cases hn:0<n
   ·exact hk.1 hn
   ·exact (hk.2 (by omega)).2
 ·obtain ⟨a,len,cap,rfl,rfl,h4,h5,h6⟩:=hx
  refine ⟨_,_,_,_,rfl,rfl,?_⟩
  rcases h6 with h6|⟨b,off,rfl,h7,h8⟩
  ·obtain ⟨k1,k2⟩:=hk.2 h6
   cases a<;>assumption
  ·rename_i els
   by_cases hn:els=[]
   ·exact (hk.2 hn).2
   ·exact hk.1 hn
 ·obtain ⟨a,len,cap,rfl,rfl,h4,h5,h6⟩:=hx
  refine ⟨_,_,_,_,rfl,rfl,?_⟩
  rcases h6 with h6|⟨b,off,rfl,h7,h8⟩
  ·obtain ⟨k1,k2⟩:=hk.2 h6
   cases a<;>assumption
  ·rename_i els
   by_cases hn:els=[]
   ·exact (hk.2 hn).2
   ·exact hk.1 hn
 ·exact ⟨_,_,_,_,hx,rfl,hk⟩
 ·exact hk.elim
theorem Dw {t e:TypeId} (ht:P.underlying t=some (.slice e)) (a:Option Addr) (n c:Nat) (w':World) :
  (binOp .eql t (.slice a n c) (.slice none 0 0)).run P w'=.ok (.bool a.isNone) w'∧(binOp .neq t (.slice a n c) (.slice none 0 0)).run P w'=.ok (.bool (!a.isNone)) w':=by
 have h:∀ d,(Op.equalIn (d+1) t (.slice a n c) (.slice none 0 0)).run P w'=.ok a.isNone w':=by
  intro d
  cases a<;>simp [Op.equalIn,run_underlying ht]
 constructor<;>simp [binOp,Op.equal,Op.maxDepth,h 9999]
theorem Bk {t:TypeId} (ht:P.underlying t=some .bool) (a b:Bool) (w':World) :
  (binOp .eql t (.bool a) (.bool b)).run P w'=.ok (.bool (a==b)) w'∧(binOp .neq t (.bool a) (.bool b)).run P w'=.ok (.bool (a != b)) w':=by
 have h:∀ d,(Op.equalIn (d+1) t (.bool a) (.bool b)).run P w'=.ok (a==b) w':=by
  intro d
  simp [Op.equalIn,run_underlying ht]
 constructor<;>simp [binOp,Op.equal,Op.maxDepth,h 9999,bne]
theorem Na {kd:TypeDesc} {key:Value} (h:isKey kd key=true):MapKept.IsKey kd key:=by
 unfold isKey at h
 split at h<;>simp_all [MapKept.IsKey]
theorem xH {x:V} {val:Value} {cs:List V} (hc:mP x=some cs) (h:aX ρ X w x val):∃ arr:Array Value,val=.agg arr∧bL ρ X w cs arr.toList:=by
 unfold mP at hc
 split at hc
 ·simp only [yaa] at hc
  subst hc
  exact h
 ·simp only [yaa] at hc
  subst hc
  refine ⟨_,h,gW (by simp) fun f x hx=>?_⟩
  simp only [yac,yab] at hx
  obtain ⟨u,hu,rfl⟩:=hx
  exact ⟨u,hu,rfl⟩
 ·cases hc
theorem Rv {t:TypeId} {kd:TypeDesc} {a b:Value} (ht:P.underlying t=some kd) (ha:isKey kd a=true) (hb:isKey kd b=true) (d:Nat) (w':World):(Op.equalIn (d+1) t a b).run P w'=.ok (eqK a b) w':=by
 cases kd<;>cases a<;>first|(simp [isKey] at ha;done)|(cases b<;>first|(simp [isKey] at hb;done)|(simp_all [isKey,Op.equalIn,run_underlying ht,eqK]))
theorem Ni {xs ys:List V} {ax ay:Array Value} (hx:bL ρ X w xs ax.toList) (hy:bL ρ X w ys ay.toList) (d:Nat):∀ {fs:List Field} {ks:List (Nat × TypeDesc)} {K:Bool→Prop},fs.mapM (Db P)=some ks→dU xs ys ks K →
  ∃ t,K t∧∀ w',(Op.eqFields (d+1) ax ay fs).run P w'=.ok t w'
 | [],ks,K,hm,h=>by
  simp at hm
  subst hm
  exact ⟨true,h,fun w'=>by simp [Op.eqFields]⟩
 | f::fs,ks,K,hm,h=>by
  rw [yaA] at hm
  simp only [bind,yau,pure,yaa] at hm
  obtain ⟨k1,hk1,ks',hks,rfl⟩:=hm
  unfold Db at hk1
  split at hk1
  ·rename_i hc
   simp only [yab] at hk1
   obtain ⟨kd,hkd,rfl⟩:=hk1
   simp only [dU,eqC] at h
   split at h
   ·rename_i a b ha hb
    obtain ⟨⟨h1,h2⟩,h3⟩:=h
    obtain ⟨t,h4,h5⟩:=Ni hx hy d hks h3
    obtain ⟨va,g1,g2⟩:=cG hx ha
    obtain ⟨vb,g3,g4⟩:=cG hy hb
    have g2':va=a:=g2
    have g4':vb=b:=g4
    subst g2'
    subst g4'
    refine ⟨_,h4,fun w'=>?_⟩
    have p1:=run_part_plain w' hc.2 (by simpa using g1:ax[f.offset]?=some va)
    have p2:=run_part_plain w' hc.2 (by simpa using g3:ay[f.offset]?=some vb)
    simp only [Op.eqFields,hc.1,ne_eq,not_false_eq_true,if_true,Sem.run_bind,p1,p2,Rv hkd h1 h2,Result.andThen_ok]
    cases eqK va vb
    ·simp
    ·simpa using h5 w'
   ·exact h.elim
  ·cases hk1
theorem In {t:TypeId} {n:Option Nat} {off:Nat} {cs:List V} {arr:Array Value} {K:V→Prop} {inf:TypeInfo} {d:TypeDesc} (hi:P.info? t=some inf) (hu:P.underlying t=some d) (hn:(if d.isRow then some inf.size else none)=n)
  (hl:bL ρ X w cs arr.toList) (hk:bX n off cs K):∃ x val,K x∧aX ρ X w x val∧∀ w',(part t arr off).run P w'=.ok val w':=by
 have hlen:=cZ hl
 by_cases hd:d.isRow=true
 ·rw [if_pos hd] at hn
  subst hn
  obtain ⟨h1,h2⟩:=hk
  refine ⟨_,.agg (arr.extract off (off+inf.size)),h2,⟨_,rfl,gW ?_ ?_⟩,fun w'=>?_⟩
  ·simp at hlen ⊢;omega
  ·intro f x hx
   rw [yaw] at hx
   split at hx
   ·rename_i hf
    rw [yaG] at hx
    obtain ⟨v,h3,h4⟩:=cG hl hx
    refine ⟨v,?_,h4⟩
    rw [yaz] at h3 ⊢
    rw [yaQ,if_pos (by simp at hlen;omega)]
    exact h3
   ·cases hx
  ·simp [part,nT hu,hd,sizeOf,typeInfo,hi]
 ·rw [if_neg hd] at hn
  subst hn
  simp only [bX] at hk
  unfold cW at hk
  split at hk
  ·rename_i x hx
   obtain ⟨v,h3,h4⟩:=cG hl hx
   rw [yaz] at h3
   exact ⟨x,v,hk,h4,fun w'=>by simp [part,nT hu,hd,h3]⟩
  ·exact hk.elim
def QOk (ρ:Nat→Loc) (w:World) (s:St) (l:LOp) (w':World):Prop :=
 match l with
 | .load _ p=>∀ b,Zq ρ w (ev s.e p) b→Nz b w w'
 | _=>True
theorem Tc {o:Oper} {l0 l:LOp} {a:Act} {s:St} {cx:Cx} {K:V→St→Prop} (hq:bH l=true) (hm:rl0 P o.op l0=some l)
  (hr:Rep ρ X w s.h) (he:cS ρ X w s.e a.tmps) (h:aOp cx l s K):∃ x val,K x s∧aX ρ X w x val∧∀ w',QOk ρ w s l w'→(execOp a.eval o).run P w'=.ok (.value val) w':=by
 unfold execOp
 generalize o.op=op at hm ⊢
 cases op with
 | move x =>
  simp only [rl0,yaa] at hm
  subst hm
  exact ⟨_,a.eval x,h,aT he x,fun w' _=>rfl⟩
 | assign x =>
  simp only [rl0,yaa] at hm
  subst hm
  exact ⟨_,a.eval x,h,aT he x,fun w' _=>rfl⟩
 | pick c x y =>
  simp only [rl0,yaa] at hm
  subst hm
  simp only [aOp,brV] at h
  have hc:=aT he c
  split at h
  ·rename_i t ht
   rw [ht] at hc
   have hc':a.eval c=.bool t:=hc
   cases t
   ·exact ⟨_,a.eval y,h.2 rfl,aT he y,fun w' _=>by simp [hc',asBool]⟩
   ·exact ⟨_,a.eval x,h.1 rfl,aT he x,fun w' _=>by simp [hc',asBool]⟩
  ·exact h.elim
 | load t p =>
  simp only [rl0] at hm
  split at hm
  ·rename_i i d hi hu
   simp only [yaa] at hm
   subst hm
   obtain ⟨x,val,h1,h2,b,hb,h3⟩:=Kh hr hi hu rfl (aT he p) h
   exact ⟨x,val,h1,h2,fun w' hw'=>by simp [h3 w' (hw' b hb)]⟩
  ·cases hm
 | fieldAddr st p f =>
  simp only [rl0] at hm
  split at hm
  ·rename_i fs hs
   split at hm
   ·rename_i fd hf
    split at hm
    ·rename_i inf hi
     split at hm
     ·cases hm
     ·rename_i hz
      simp only [yaa] at hm
      subst hm
      simp only [aOp,Ha] at h
      have hp:=aT he p
      split at h
      ·rename_i k i g hv
       rw [hv] at hp
       obtain ⟨h1,h2⟩:=hp
       exact ⟨_,_,h,⟨h1,rfl⟩,fun w' _=>by simp [h2,Bj hs hf hi hz,yan]⟩
      ·rename_i sz els i g hv
       rw [hv] at hp
       obtain ⟨b,off,h1,h2,h3⟩:=hp
       exact ⟨_,_,h,⟨b,off,rfl,h2,h3⟩,fun w' _=>by simp [h1,Bj hs hf hi hz,yan]⟩
      ·exact h.elim
    ·cases hm
   ·cases hm
  ·cases hm
 | indexAddr t x i =>
  simp only [rl0] at hm
  split at hm
  ·rename_i e ht
   split at hm
   ·rename_i inf hi
    simp only [yaa] at hm
    subst hm
    obtain ⟨k,n,h1,h2⟩:=cV h
    have hiv:=aT he i
    rw [h1] at hiv
    have hiv':a.eval i=.int k n:=hiv
    obtain ⟨y,u,h3,h4,h5⟩:=Xr (k:=k) ht hi hr (aT he x) h2
    exact ⟨y,u,h3,h4,fun w' _=>by simp [hiv',h5 w']⟩
   ·cases hm
  ·cases hm
 | binOp op t x y yt =>
  simp only [rl0] at hm
  split at hm
  ·rename_i kd hu
   split at hm
   ·rename_i ex _ _
    simp only [yaa] at hm
    subst hm
    obtain ⟨k,n,h1,h2⟩:=cV h
    obtain ⟨k',n',h3,h4⟩:=cV h2
    have hx:=aT he x
    rw [h1] at hx
    have hx':a.eval x=.int k n:=hx
    have hy:=aT he y
    rw [h3] at hy
    have hy':a.eval y=.int k' n':=hy
    obtain ⟨h5,h6⟩:=h4
    subst h5
    obtain ⟨z,val,h7,h8,h9⟩:=Ps (ρ:=ρ) (X:=X) (w:=w) (P:=P) (t:=t) h6 (oS _)
    refine ⟨z,val,h7,h8,fun w' _=>?_⟩
    have hg:(eqGuard op t x y (.int k' n) (.int k' n')).run P w'=.ok () w':=by
     unfold eqGuard
     split<;>rfl
    simp [hx',hy',hg,h9 w']
   ·simp only [yaa] at hm
    subst hm
    obtain ⟨k,n,h1,h2⟩:=cV h
    obtain ⟨k',n',h3,h4⟩:=cV h2
    have hx:=aT he x
    rw [h1] at hx
    have hx':a.eval x=.int k n:=hx
    have hy:=aT he y
    rw [h3] at hy
    have hy':a.eval y=.int k' n':=hy
    have hg:∀ w',(eqGuard op t x y (.int k n) (.int k' n')).run P w'=.ok () w':=by
     intro w'
     unfold eqGuard
     split<;>rfl
    unfold cL at h4
    split at h4
    ·obtain ⟨h5,h6⟩:=h4
     refine ⟨_,_,h6,rfl,fun w' _=>?_⟩
     have h5':¬n'<0:=by omega
     simp [hx',hy',hg w',binOp,Op.shift,h5']
    ·obtain ⟨h5,h6⟩:=h4
     refine ⟨_,_,h6,rfl,fun w' _=>?_⟩
     have h5':¬n'<0:=by omega
     simp [hx',hy',hg w',binOp,Op.shift,h5']
    ·exact h4.elim
   ·cases hm
  ·rename_i hu
   have hb:∃ neg,l=.eqb neg x y∧op=(if neg then .neq else .eql):=by
    split at hm
    ·simp only [yaa] at hm;exact ⟨false,hm.symm,rfl⟩
    ·simp only [yaa] at hm;exact ⟨true,hm.symm,rfl⟩
    ·cases hm
   obtain ⟨neg,rfl,rfl⟩:=hb
   obtain ⟨p,h1,h2⟩:=Ba h
   obtain ⟨p',h3,h4⟩:=Ba h2
   have hx:=aT he x
   rw [h1] at hx
   have hx':a.eval x=.bool p:=hx
   have hy:=aT he y
   rw [h3] at hy
   have hy':a.eval y=.bool p':=hy
   refine ⟨_,_,h4,rfl,fun w' _=>?_⟩
   cases neg
   ·simp [hx',hy',eqGuard,(Bk hu p p' w').1]
   ·simp [hx',hy',eqGuard,(Bk hu p p' w').2]
  ·rename_i fs hu
   split at hm
   ·rename_i hcnd
    have hb:∃ neg ks,l=.eqf neg ks x y∧op=(if neg then .neq else .eql)∧fs.toList.mapM (Db P)=some ks:=by
     split at hm
     ·rename_i ks hks;simp only [yaa] at hm;exact ⟨false,ks,hm.symm,rfl,hks⟩
     ·rename_i ks hks;simp only [yaa] at hm;exact ⟨true,ks,hm.symm,rfl,hks⟩
     ·cases hm
    obtain ⟨neg,ks,rfl,rfl,hks⟩:=hb
    simp only [aOp] at h
    obtain ⟨xs,h1,h⟩:=dO h
    obtain ⟨ys,h2,h⟩:=dO h
    obtain ⟨ax,hx',hxr⟩:=xH h1 (aT he x)
    obtain ⟨ay,hy',hyr⟩:=xH h2 (aT he y)
    obtain ⟨t',h3,h4⟩:=Ni hxr hyr 9998 hks h
    have hfo:P.fieldsOf t=fs:=by simp [Program.fieldsOf,hu]
    refine ⟨_,_,h3,rfl,fun w' _=>?_⟩
    have hrun:=run_equalIn_struct w' 9999 t ax ay (by rw [hfo];exact hu) hcnd.1
    rw [hfo,h4 w'] at hrun
    have hg:=run_eqGuard_agg (P:=P) w' (if neg then .neq else .eql) t x y ax ay hcnd.2
    cases neg
    ·simp only [yay,if_false] at hg ⊢
     simp [hx',hy',hg,run_eql_struct,hrun]
    ·simp only [if_true] at hg ⊢
     simp [hx',hy',hg,run_neq_struct,hrun]
   ·cases hm
  ·rename_i e hu
   split at hm
   ·have hb:∃ neg,l=.eqn neg x (.const (.slice none 0 0))∧op=(if neg then .neq else .eql):=by
     split at hm
     ·simp only [yaa] at hm;exact ⟨false,hm.symm,rfl⟩
     ·simp only [yaa] at hm;exact ⟨true,hm.symm,rfl⟩
     ·cases hm
    obtain ⟨neg,rfl,rfl⟩:=hb
    simp only [aOp,ev,aA] at h
    obtain ⟨b,ad,n,c,h1,rfl,h2⟩:=Yh (aT he x) h
    have hcst:a.eval (.const (.slice none 0 0))=.slice none 0 0:=rfl
    refine ⟨_,_,h2,rfl,fun w' _=>?_⟩
    cases neg
    ·simp [h1,hcst,eqGuard,(Dw hu ad n c w').1]
    ·simp [h1,hcst,eqGuard,(Dw hu ad n c w').2]
   ·cases hm
  ·cases hm
 | nilCheck x =>
  simp only [rl0,yaa] at hm
  subst hm
  simp only [aOp] at h
  have hx:=aT he x
  split at h
  ·rename_i k i f hv
   rw [hv] at hx
   have h2:=hx.2
   exact ⟨_,a.eval x,h,hx,fun w' _=>by simp [h2]⟩
  ·rename_i f cs hv
   rw [hv] at hx
   have hx':=hx
   obtain ⟨arr,h2,_⟩:=hx
   exact ⟨_,a.eval x,h,hx',fun w' _=>by simp [h2]⟩
  ·exact h.elim
 | unOp op t x =>
  simp only [rl0] at hm
  split at hm
  ·simp only [yaa] at hm
   subst hm
   obtain ⟨p,h1,h2⟩:=Ba h
   have hx:=aT he x
   rw [h1] at hx
   have hx':a.eval x=.bool p:=hx
   exact ⟨_,_,h2,rfl,fun w' _=>by simp [hx',Op.unary]⟩
  ·simp only [yaa] at hm
   subst hm
   obtain ⟨k,n,h1,h3⟩:=cV h
   have hx:=aT he x
   rw [h1] at hx
   have hx':a.eval x=.int k n:=hx
   refine ⟨_,_,h3,rfl,fun w' _=>?_⟩
   simp [hx',Op.unary,Op.intArith]
  ·cases hm
 | convert st d x =>
  simp only [rl0] at hm
  split at hm
  ·rename_i ks k ex _ _ hs hd
   simp only [yaa] at hm
   subst hm
   obtain ⟨k',n,h1,h2⟩:=cV h
   have hx:=aT he x
   rw [h1] at hx
   have hx':a.eval x=.int k' n:=hx
   split at h2
   ·exact ⟨_,_,h2.2,rfl,fun w' _=>by simp [hx',convert,run_underlying hs,run_underlying hd,Conv.intToInt,oS k _ h2.1]⟩
   ·exact ⟨_,_,h2,rfl,fun w' _=>by simp [hx',convert,run_underlying hs,run_underlying hd,Conv.intToInt]⟩
  ·cases hm
 | extract x i =>
  simp only [rl0,yaa] at hm
  subst hm
  simp only [aOp] at h
  have hx:=aT he x
  split at h
  ·rename_i vs hv
   rw [hv] at hx
   obtain ⟨arr,h2,h3⟩:=hx
   unfold cW at h
   split at h
   ·rename_i y hy
    obtain ⟨v,h4,h5⟩:=cG h3 hy
    rw [yaz] at h4
    exact ⟨y,v,h,h5,fun w' _=>by simp [h2,Instr.extract,h4]⟩
   ·exact h.elim
  ·exact h.elim
 | makeFunc fn first caps =>
  simp only [rl0] at hm
  split at hm
  ·rename_i f
   split at hm
   ·rename_i hfe
    simp only [yaa] at hm
    subst hm
    have hfe':first=#[]:=by simpa using hfe
    subst hfe'
    refine ⟨_,.func (.func f) #[] (caps.map a.eval),h,⟨_,rfl,?_⟩,fun w' _=>by simp [Instr.makeFunc]⟩
    have:∀ xs:List Operand,bL ρ X w (xs.map (ev s.e)) (xs.map a.eval):=by
     intro xs
     induction xs with
     | nil=>trivial
     | cons x r ih=>exact ⟨aT he x,ih⟩
    simpa using this caps.toList
   ·cases hm
  ·cases hm
 | field t x f =>
  simp only [rl0] at hm
  split at hm
  ·rename_i fs hs
   split at hm
   ·rename_i fd hf
    split at hm
    ·rename_i inf d hi hu
     simp only [yaa] at hm
     subst hm
     simp only [aOp,He] at h
     have hx:=aT he x
     split at h
     ·rename_i cs hv
      rw [hv] at hx
      obtain ⟨arr,h2,h3⟩:=hx
      obtain ⟨y,val,h4,h5,h6⟩:=In hi hu rfl h3 h
      exact ⟨y,val,h4,h5,fun w' _=>by simp [Instr.field,run_underlying hs,hf,h2,asAgg,h6 w']⟩
     ·exact h.elim
    ·cases hm
   ·cases hm
  ·cases hm
 | slice t x lo hi mx =>
  simp only [rl0] at hm
  split at hm
  ·rename_i e ht
   split at hm
   ·rename_i inf hi'
    split at hm
    ·cases hm
    ·rename_i hmx0
     simp only [yaa] at hm
     subst hm
     simp only [aOp] at h
     obtain ⟨l,hl,h1⟩:=Pq (o:=lo) he h
     obtain ⟨u,hu,h2⟩:=Pq (o:=hi) he h1
     obtain ⟨m,hmm,h3⟩:=Pq (o:=mx) he h2
     have hmx:mx.map a.eval≠none→hi.map a.eval≠none:=by
      cases mx<;>cases hi<;>simp_all
     obtain ⟨y,v,h4,h5,h6⟩:=Vd ht hi' hr (aT he x) hl hu hmm hmx h3
     exact ⟨y,v,h4,h5,fun w' _=>by simp [h6 w']⟩
   ·cases hm
  ·cases hm
 | call c =>
  simp only [rl0,Dy] at hm
  split at hm
  ·rename_i x t hc hx ht
   have ha:=bM hx
   have hat:=bM ht
   split at hm
   ·rename_i e hu
    simp only [yaa] at hm
    subst hm
    simp only [aOp] at h
    obtain ⟨y,u,h1,h2,h3⟩:=Xf (ty:=o.type) hu (aT he x) h
    exact ⟨y,u,h1,h2,fun w' _=>by simp [resolve,hc,ha,hat,invoke,builtin,h3 w']⟩
   ·rename_i hu
    simp only [yaa] at hm
    subst hm
    simp only [aOp,Ie] at h
    split at h
    ·rename_i t hv
     have hx':=aT he x
     rw [hv] at hx'
     have hx'':a.eval x=.string t:=hx'
     exact ⟨_,_,h,rfl,fun w' _=>by simp [resolve,hc,ha,hat,invoke,builtin,Builtin.len_,run_underlying hu,hx'',goInt]⟩
    ·exact h.elim
   ·simp only [yaa] at hm
    subst hm
    simp [bH] at hq
   ·cases hm
  ·simp only [yaa] at hm
   subst hm
   simp [bH] at hq
  ·simp only [yaa] at hm
   subst hm
   simp [bH] at hq
  ·rename_i x y hc hx
   have ha:=bM hx
   simp only [yaa] at hm
   subst hm
   obtain ⟨k,n,h1,h2⟩:=cV h
   obtain ⟨k',n',h3,h5,h4⟩:=cV h2
   subst h5
   have hx:=aT he x
   rw [h1] at hx
   have hx':a.eval x=.int k' n:=hx
   have hy:=aT he y
   rw [h3] at hy
   have hy':a.eval y=.int k' n':=hy
   refine ⟨_,_,h4,rfl,fun w' _=>?_⟩
   have:(if n'<n then n' else n)=min n n':=by rw [Int.min_def];split<;>split<;>omega
   simp [resolve,hc,ha,invoke,builtin,Builtin.min_,Builtin.min2,hx',hy',this]
  ·rename_i x y hc hx
   have ha:=bM hx
   simp only [yaa] at hm
   subst hm
   obtain ⟨k,n,h1,h2⟩:=cV h
   obtain ⟨k',n',h3,h5,h4⟩:=cV h2
   subst h5
   have hx:=aT he x
   rw [h1] at hx
   have hx':a.eval x=.int k' n:=hx
   have hy:=aT he y
   rw [h3] at hy
   have hy':a.eval y=.int k' n':=hy
   refine ⟨_,_,h4,rfl,fun w' _=>?_⟩
   have:(if n<n' then n' else n)=max n n':=by rw [Int.max_def];split<;>split<;>omega
   simp [resolve,hc,ha,invoke,builtin,Builtin.max_,Builtin.max2,hx',hy',this]
  ·(repeat' split at hm)<;>first|(cases hm;done)|(simp only [yaa] at hm;subst hm;simp [bH] at hq)
  ·(repeat' split at hm)<;>first|(cases hm;done)|(simp only [yaa] at hm;subst hm;simp [bH] at hq)
  ·(repeat' split at hm)<;>first|(cases hm;done)|(simp only [yaa] at hm;subst hm;simp [bH] at hq)
  ·cases hm
 | build t parts =>
  simp only [rl0] at hm
  have hz:∀ z:Value,bL ρ X w (z.cells.toList.map .v) z.cells.toList:=fun z=>gW (by simp) fun f x hx=>by
   simp only [yac,yab] at hx
   obtain ⟨u,hu,rfl⟩:=hx
   exact ⟨u,hu,rfl⟩
  split at hm
  ·rename_i it n e hit hu
   split at hm
   ·rename_i z ie hz0 hie
    cases hp:(parts.toList.mapM fun p=>(some (p.1*ie.size,ie.size):Option (Nat × Nat)).map fun os=>(os.1,os.2,p.2)) with
    | none=>rw [hp] at hm;cases hm
    | some ps =>
     rw [hp] at hm
     simp only [yax,yaa] at hm
     subst hm
     obtain ⟨y,cells',h1,h2,h3⟩:=uY he (place:=fun i=>some (i*ie.size,ie.size)) parts.toList ps _ _ hp (hz z) h
     refine ⟨_,.agg cells',h1,⟨cells',rfl,h3⟩,fun w' _=>?_⟩
     have hb:P.built t (parts.map fun (i,x)=>(i,a.eval x)).toList=some cells':=by
      simp only [Program.built,hit,hu,hz0,hie,Array.toList_map]
      exact h2
     simp [run_build w' t _ cells' hb]
   ·cases hm
  ·rename_i it fields hit hu
   split at hm
   ·rename_i z places hz0 hpl
    cases hp:(parts.toList.mapM fun p=>(places.toArray[p.1]?).map fun os=>(os.1,os.2,p.2)) with
    | none=>rw [hp] at hm;simp at hm
    | some ps =>
     rw [hp] at hm
     simp only [yax,yaa] at hm
     subst hm
     obtain ⟨y,cells',h1,h2,h3⟩:=uY he (place:=fun i=>places.toArray[i]?) parts.toList ps _ _ hp (hz z) h
     refine ⟨_,.agg cells',h1,⟨cells',rfl,h3⟩,fun w' _=>?_⟩
     have hb:P.built t (parts.map fun (i,x)=>(i,a.eval x)).toList=some cells':=by
      simp only [Program.built,hit,hu,hz0,hpl,Array.toList_map]
      exact h2
     simp [run_build w' t _ cells' hb]
   ·cases hm
  ·cases hm
 | buildSlice t n parts =>
  simp only [rl0] at hm
  (repeat' split at hm)<;>first|(cases hm;done)|(simp only [yaa] at hm;subst hm;simp [bH] at hq)
 | makeSlice _ _ _|makeMap _ _|lookup _ _ _ _|mapUpdate _ _ _ _|insert _ _ _ _|range _ _|next _ _|entry _ =>
  simp only [rl0] at hm
  (repeat' split at hm)<;>first|(cases hm;done)|(simp only [yaa] at hm;subst hm;simp [bH] at hq)
 | box t x=>simp only [rl0] at hm;split at hm<;>simp_all [bH];subst hm;simp at hq
 | alloc t =>
  simp only [rl0] at hm
  repeat (split at hm<;>try (cases hm;done))
  simp only [yaa] at hm
  subst hm
  simp [bH] at hq
 | store t p x =>
  simp only [rl0] at hm
  split at hm
  ·simp only [yaa] at hm
   subst hm
   simp [bH] at hq
  ·cases hm
 | _=>simp [rl0] at hm
end
end Go.Fx
namespace Go.Fx
open Go.RowKit
theorem rF {xs ys:List V}:∀ (a b:List (Nat × TypeDesc)) (K:Bool→Prop),dU xs ys (a++b) K→dU xs ys a fun t=>dU xs ys b fun u=>K (t&&u)
 | [],b,K,h=>by simpa [dU] using h
 | f::r,b,K,h=>by
  simp only [List.cons_append,dU] at h ⊢
  unfold eqC at h ⊢
  split at h
  ·refine ⟨h.1,?_⟩
   have:=rF r b _ h.2
   refine cast ?_ this
   congr 1
   funext t
   congr 1
   funext u
   rw [Bool.and_assoc]
  ·exact h.elim
section
variable {ρ:Nat→Loc} {X:Nat→Prop} {w:World} {P:Program}
theorem dI {t:TypeId} {inf:TypeInfo} {d:TypeDesc} (hi:P.info? t=some inf) (hu:P.underlying t=some d) (hd:d.isRow=true) (arr:Array Value) (off:Nat) (w':World) :
  (part t arr off).run P w'=.ok (.agg (arr.extract off (off+inf.size))) w':=by
 simp [part,nT hu,hd,sizeOf,typeInfo,hi]
theorem n7 {t:TypeId} {inf:TypeInfo} {d:TypeDesc} (hi:P.info? t=some inf) (hu:P.underlying t=some d) (arr:Array Value) {off size fo:Nat} (h0:0<inf.size) (hs:fo+inf.size≤size) (w':World) :
  (part t (arr.extract off (off+size)) fo).run P w'=(part t arr (off+fo)).run P w':=by
 by_cases hd:d.isRow=true
 ·rw [dI hi hu hd,dI hi hu hd]
  congr 2
  rw [Array.extract_extract]
  congr 1<;>omega
 ·have hd':d.isRow=false:=by simpa using hd
  have hg:(arr.extract off (off+size))[fo]?=arr[off+fo]?:=by
   rw [yaQ]
   split
   ·rfl
   ·rw [Array.getElem?_eq_none (by omega)]
  simp [part,nT hu,hd',hg]
def Py (P:Program) (t:TypeId) (arr:Array Value) (off:Nat) (v:Value):Prop:=∀ w',(part t arr off).run P w'=.ok v w'
theorem gT {d:Nat} {t:TypeId} {off:Nat} {ks:List (Nat × TypeDesc)} (h:bW P d t off=some ks):∃ fd,P.underlying t=some fd:=by
 cases d with
 | zero=>simp [bW] at h
 | succ d =>
  simp only [bW] at h
  cases hq:P.underlying t with
  | none=>cases hi:P.info? t<;>simp [hi,hq] at h
  | some fd=>exact ⟨fd,rfl⟩
def Qa (P:Program) (xs ys:List V) (ax ay:Array Value) (d D:Nat):Prop :=
 ∀ (t:TypeId) (off:Nat) (ks:List (Nat × TypeDesc)) (K:Bool→Prop),bW P d t off=some ks→dU xs ys ks K →
  ∃ b va vb,K b∧Py P t ax off va∧Py P t ay off vb∧∀ w',(Op.equalIn D t va vb).run P w'=.ok b w'
def Jb (P:Program) (sx ax:Array Value) (off size:Nat):Prop :=
 ∀ {t:TypeId} {inf:TypeInfo} {d:TypeDesc} {fo:Nat},P.info? t=some inf→P.underlying t=some d→0<inf.size→fo+inf.size≤size→∀ w',(part t sx fo).run P w'=(part t ax (off+fo)).run P w'
theorem Bq {xs ys:List V} {ax ay sx sy:Array Value} {d D off size:Nat} (ih:Qa P xs ys ax ay d D) (hsx:Jb P sx ax off size) (hsy:Jb P sy ay off size) :
  ∀ (l:List Field) (kss:List (List (Nat × TypeDesc))) (K:Bool→Prop),(l.mapM fun (f:Field)=>match P.info? f.type with
    | some fi=>if f.name ≠ "_"∧f.offset+fi.size≤size∧0<fi.size then bW P d f.type (off+f.offset) else none
    | none=>none)=some kss→dU xs ys kss.flatten K →
   ∃ b,K b∧∀ w',(Op.eqFields D sx sy l).run P w'=.ok b w':=by
 intro l
 induction l with
 | nil =>
  intro kss K hm h
  simp at hm
  subst hm
  exact ⟨true,h,fun w'=>by simp [Op.eqFields]⟩
 | cons f l ihl =>
  intro kss K hm h
  rw [yaA] at hm
  simp only [bind,yau,pure,yaa] at hm
  obtain ⟨k1,hk1,ks',hks',rfl⟩:=hm
  split at hk1
  ·rename_i fi hfi
   split at hk1
   ·rename_i hc
    obtain ⟨hn,hsz,hpos⟩:=hc
    rw [List.flatten_cons] at h
    obtain ⟨b1,va,vb,h1,p1,p2,p3⟩:=ih _ _ _ _ hk1 (rF _ _ _ h)
    obtain ⟨b2,h2,p4⟩:=ihl _ _ hks' h1
    obtain ⟨fd,hfd⟩:=gT hk1
    refine ⟨_,h2,fun w'=>?_⟩
    simp only [Op.eqFields,hn,ne_eq,not_false_eq_true,if_true,Sem.run_bind,hsx hfi hfd hpos hsz,hsy hfi hfd hpos hsz,p1 w',p2 w',p3 w',Result.andThen_ok]
    cases b1
    ·simp
    ·simpa using p4 w'
   ·cases hk1
  ·cases hk1
theorem Fq {xs ys:List V} {ax ay sx sy:Array Value} {d D off size n:Nat} {e:TypeId} {ie:TypeInfo} (hie:P.info? e=some ie) (hpos:0<ie.size) (hsz:n*ie.size≤size) (ih:Qa P xs ys ax ay d D) (hsx:Jb P sx ax off size) (hsy:Jb P sy ay off size) :
  ∀ (l:List Nat) (kss:List (List (Nat × TypeDesc))) (K:Bool→Prop),(∀ k∈l,k<n)→(l.mapM fun k=>bW P d e (off+k*ie.size))=some kss→dU xs ys kss.flatten K →
   ∃ b,K b∧∀ w',(Op.eqItems D e (P.cellsOf e) sx sy l).run P w'=.ok b w':=by
 have hco:P.cellsOf e=ie.size:=by simp [Program.cellsOf,hie]
 intro l
 induction l with
 | nil =>
  intro kss K _ hm h
  simp at hm
  subst hm
  exact ⟨true,h,fun w'=>by simp [Op.eqItems]⟩
 | cons k l ihl =>
  intro kss K hl hm h
  rw [yaA] at hm
  simp only [bind,yau,pure,yaa] at hm
  obtain ⟨k1,hk1,ks',hks',rfl⟩:=hm
  rw [List.flatten_cons] at h
  obtain ⟨b1,va,vb,h1,p1,p2,p3⟩:=ih _ _ _ _ hk1 (rF _ _ _ h)
  obtain ⟨b2,h2,p4⟩:=ihl _ _ (fun k hk=>hl k (yaL _ hk)) hks' h1
  have hkn:=hl k List.mem_cons_self
  have hle:(k+1)*ie.size≤n*ie.size:=yaP _ hkn
  rw [yak,Nat.one_mul] at hle
  obtain ⟨fd,hfd⟩:=gT hk1
  have hle':k*ie.size+ie.size≤size:=by omega
  refine ⟨_,h2,fun w'=>?_⟩
  simp only [Op.eqItems,Sem.run_bind,hco,hsx hie hfd hpos hle',hsy hie hfd hpos hle',p1 w',p2 w',p3 w',Result.andThen_ok]
  cases b1
  ·simp
  ·simpa [hco] using p4 w'
theorem Ye {xs ys:List V} {ax ay:Array Value} (hx:bL ρ X w xs ax.toList) (hy:bL ρ X w ys ay.toList):∀ (d:Nat) (D:Nat),d≤D→Qa P xs ys ax ay d D:=by
 intro d
 induction d with
 | zero=>intro D _ t off ks K h;simp [bW] at h
 | succ d ih =>
  intro D hD t off ks K hk h
  obtain ⟨D,rfl⟩:∃ D',D=D'+1:=⟨D-1,by omega⟩
  have ih':=ih D (by omega)
  simp only [bW] at hk
  split at hk
  ·rename_i it fs hi hu
   split at hk
   ·rename_i hst
    simp only [yab] at hk
    obtain ⟨kss,hks,rfl⟩:=hk
    have hrow:(TypeDesc.struct fs).isRow=true:=rfl
    have hfo:P.fieldsOf t=fs:=by simp [Program.fieldsOf,hu]
    obtain ⟨b,h1,h2⟩:=Bq (sx:=ax.extract off (off+it.size)) (sy:=ay.extract off (off+it.size)) (size:=it.size) ih' (fun hi hu h0 hs w'=>n7 hi hu ax h0 hs w') (fun hi hu h0 hs w'=>n7 hi hu ay h0 hs w') _ _ _ hks h
    refine ⟨b,_,_,h1,dI hi hu hrow ax off,dI hi hu hrow ay off,fun w'=>?_⟩
    rw [run_equalIn_struct w' D t _ _ (by rw [hfo];exact hu) hst,hfo]
    exact h2 w'
   ·cases hk
  ·rename_i it n e hi hu
   split at hk
   ·rename_i ie hie
    split at hk
    ·rename_i hc
     obtain ⟨hsz,hpos⟩:=hc
     simp only [yab] at hk
     obtain ⟨kss,hks,rfl⟩:=hk
     have hrow:(TypeDesc.array n e).isRow=true:=rfl
     obtain ⟨b,h1,h2⟩:=Fq (sx:=ax.extract off (off+it.size)) (sy:=ay.extract off (off+it.size)) hie hpos hsz ih' (fun hi hu h0 hs w'=>n7 hi hu ax h0 hs w') (fun hi hu h0 hs w'=>n7 hi hu ay h0 hs w') _ _ _ (fun k hk=>List.mem_range.1 hk) hks h
     refine ⟨b,_,_,h1,dI hi hu hrow ax off,dI hi hu hrow ay off,fun w'=>?_⟩
     rw [run_equalIn_array w' D _ _ hu hie]
     exact h2 w'
    ·cases hk
   ·cases hk
  ·rename_i it kd _ _ hi hu
   split at hk
   ·rename_i hp
    simp only [yaa] at hk
    subst hk
    simp only [dU,eqC] at h
    split at h
    ·rename_i a b ha hb
     obtain ⟨⟨h1,h2⟩,h3⟩:=h
     obtain ⟨va,g1,g2⟩:=cG hx ha
     obtain ⟨vb,g3,g4⟩:=cG hy hb
     have g2':va=a:=g2
     have g4':vb=b:=g4
     subst g2'
     subst g4'
     refine ⟨_,_,_,by simpa using h3,fun w'=>run_part_plain w' hp (by simpa using g1:ax[off]?=some va),fun w'=>run_part_plain w' hp (by simpa using g3:ay[off]?=some vb),fun w'=>Rv hu h1 h2 D w'⟩
    ·exact h.elim
   ·cases hk
  ·cases hk
theorem Fp {xs ys:List V} {ax ay:Array Value} (hx:bL ρ X w xs ax.toList) (hy:bL ρ X w ys ay.toList) {d D:Nat} (hD:d<D) {t:TypeId} {ks:List (Nat × TypeDesc)} {K:Bool→Prop} (hrow:uC P t=true) (hk:bW P d t 0=some ks) (h:dU xs ys ks K) :
  ∃ b,K b∧∀ w',(Op.equalIn D t (.agg ax) (.agg ay)).run P w'=.ok b w':=by
 obtain ⟨D,rfl⟩:∃ D',D=D'+1:=⟨D-1,by omega⟩
 cases d with
 | zero=>simp [bW] at hk
 | succ d =>
  have ih':=Ye (P:=P) hx hy d D (by omega)
  simp only [bW] at hk
  split at hk
  ·rename_i it fs hi hu
   split at hk
   ·rename_i hst
    simp only [yab] at hk
    obtain ⟨kss,hks,rfl⟩:=hk
    have hfo:P.fieldsOf t=fs:=by simp [Program.fieldsOf,hu]
    obtain ⟨b,h1,h2⟩:=Bq (sx:=ax) (sy:=ay) (size:=it.size) ih' (fun _ _ _ _ w'=>by rw [yag]) (fun _ _ _ _ w'=>by rw [yag]) _ _ _ hks h
    refine ⟨b,h1,fun w'=>?_⟩
    rw [run_equalIn_struct w' D t _ _ (by rw [hfo];exact hu) hst,hfo]
    exact h2 w'
   ·cases hk
  ·rename_i it n e hi hu
   split at hk
   ·rename_i ie hie
    split at hk
    ·rename_i hc
     obtain ⟨hsz,hpos⟩:=hc
     simp only [yab] at hk
     obtain ⟨kss,hks,rfl⟩:=hk
     obtain ⟨b,h1,h2⟩:=Fq (sx:=ax) (sy:=ay) hie hpos hsz ih' (fun _ _ _ _ w'=>by rw [yag]) (fun _ _ _ _ w'=>by rw [yag]) _ _ _ (fun k hk=>List.mem_range.1 hk) hks h
     refine ⟨b,h1,fun w'=>?_⟩
     rw [run_equalIn_array w' D _ _ hu hie]
     exact h2 w'
    ·cases hk
   ·cases hk
  ·rename_i it kd n1 n2 hi hu
   exfalso
   unfold uC at hrow
   rw [hu] at hrow
   cases kd<;>first|(simp at hrow;done)|exact n1 _ rfl|exact n2 _ _ rfl
  ·cases hk
theorem Gn {t e:TypeId} {inf:TypeInfo} {a:Addr} {n:Nat} {lo hi mx:Option Value} {l u m:Option Int} (ht:P.underlying t=some (.array n e)) (hi':P.info? e=some inf) (hl:dL lo l) (hu:dL hi u) (hm:dL mx m)
  (hok:bN n l u m) (hmx:mx≠none→hi≠none) :
  ∃ c,(u.getD n).toNat≤c∧c≤n∧∀ w',
   (Instr.sliceAt t (.pointer (some a)) lo hi mx).run P w'=.ok (.slice (some (if c=(l.getD 0).toNat then a else a.add ((l.getD 0).toNat*inf.size))) ((u.getD n).toNat-(l.getD 0).toNat) (c-(l.getD 0).toNat)) w':=by
 obtain ⟨⟨h1,h2⟩,h3,h4⟩:=hok
 have hrun:∀ (w':World) (x:Nat × Nat × Nat),(Instr.sliceBounds false n n lo hi mx).run P w'=.ok x w' →
   (Instr.sliceAt t (.pointer (some a)) lo hi mx).run P w'=.ok (.slice (some (if x.2.2=x.1 then a else a.add (x.1*inf.size))) (x.2.1-x.1) (x.2.2-x.1)) w':=by
  intro w' x hx
  simp [Instr.sliceAt,Instr.sureAddr,run_underlying ht,hx,sizeOf,typeInfo,hi']
 rcases hm with ⟨rfl,rfl⟩|⟨km,im,rfl,rfl⟩
 ·simp only [yal] at h3 h4
  refine ⟨n,by omega,yae _,fun w'=>hrun w' ((l.getD 0).toNat,(u.getD n).toNat,n) ?_⟩
  rcases hu with ⟨rfl,rfl⟩|⟨ku,iu,rfl,rfl⟩<;>rcases hl with ⟨rfl,rfl⟩|⟨kl,il,rfl,rfl⟩<;>simp only [yal,yai] at h1 h2 h3
  ·simp [Instr.sliceBounds]
  ·simp [Instr.sliceBounds,dT (P:=P) rfl h1 h2]
  ·simp [Instr.sliceBounds,dT (P:=P) rfl h2 (show iu≤(n:Int) by omega)]
  ·have e1:(iu.toNat:Int)=iu:=by omega
   simp [Instr.sliceBounds,dT (P:=P) rfl (show 0≤iu by omega) (show iu≤(n:Int) by omega),dT (P:=P) rfl h1 (show il≤(iu.toNat:Int) by omega)]
 ·simp only [yai] at h3 h4
  rcases hu with ⟨rfl,rfl⟩|⟨ku,iu,rfl,rfl⟩
  ·exact absurd rfl (hmx (by simp))
  ·simp only [yai] at h2 h3
   have b1:∀ w' code,(Instr.sliceBound (.int km im) n code).run P w'=.ok im.toNat w':=fun w' code=>dT rfl (by omega) (by omega)
   have b2:∀ w' code,(Instr.sliceBound (.int ku iu) im.toNat code).run P w'=.ok iu.toNat w':=fun w' code=>dT rfl (by omega) (by omega)
   refine ⟨im.toNat,by simp;omega,by omega,fun w'=>hrun w' ((l.getD 0).toNat,iu.toNat,im.toNat) ?_⟩
   rcases hl with ⟨rfl,rfl⟩|⟨kl,il,rfl,rfl⟩<;>simp only [yal,yai] at h1 h2
   ·simp [Instr.sliceBounds,b1,b2]
   ·have b3:∀ w' code,(Instr.sliceBound (.int kl il) iu.toNat code).run P w'=.ok il.toNat w':=fun w' code=>dT rfl (by omega) (by omega)
    simp [Instr.sliceBounds,b1,b2,b3]
theorem Sr {h:List Blk} {t e:TypeId} {inf:TypeInfo} {x:V} {val:Value} {n:Nat} {lo hi mx:Option Value} {l u m:Option Int} {K:V→Prop} (ht:P.underlying t=some (.array n e)) (hi':P.info? e=some inf) (h1:inf.size=1) (hn:n≤maxLen)
  (hr:Rep ρ X w h) (hx:aX ρ X w x val) (hl:dL lo l) (hu:dL hi u) (hm:dL mx m) (hmx:mx≠none→hi≠none) (hk:gG h n x l u m K) :
  ∃ y v,K y∧aX ρ X w y v∧∀ w',(Instr.sliceAt t val lo hi mx).run P w'=.ok v w':=by
 unfold gG at hk
 split at hk
 ·rename_i k i f
  unfold blk at hk
  rw [yam] at hk
  cases hb:h[k]? with
  | none=>simp [hb,Ho] at hk
  | some B =>
   rw [hb] at hk
   have hB:=hr.blk k B hb
   cases B with
   | var cs =>
    obtain ⟨⟨hroom,hok⟩,hk⟩:=hk
    obtain ⟨⟨_,hoff,hsz⟩,cc,T,hh,hcl,hrm⟩:=hB
    have hlen:=cZ hcl
    have hrl:(ρ k).room=cs.length:=by rw [←hrm,hlen,yaH]
    obtain ⟨hreal,rfl⟩:=hx
    obtain ⟨c,c1,c2,hrun⟩:=Gn (a:=⟨(ρ k).blk,(ρ k).off+i*(ρ k).sz+f,none⟩) ht hi' hl hu hm hok hmx
    obtain ⟨⟨q1,q2⟩,q3,q4⟩:=hok
    by_cases hc:c=(l.getD 0).toNat
    ·refine ⟨_,_,hk,⟨0,by omega,yah _,.inl ⟨rfl,some ⟨(ρ k).blk,(ρ k).off+i*(ρ k).sz+f,none⟩,rfl⟩⟩,fun w'=>?_⟩
     rw [hrun w',if_pos hc]
     congr 2<;>omega
    ·refine ⟨_,_,hk,⟨c-(l.getD 0).toNat,by omega,by omega,.inr ⟨hreal,rfl,?_⟩⟩,fun w'=>?_⟩
     ·rw [hoff,hsz,hrl];omega
     ·rw [hrun w',if_neg hc]
      simp only [Addr.add_none,hsz,hoff,h1,Nat.mul_one,yag,yan]
   | _=>exact hk.elim
 ·rename_i sz els i f
  obtain ⟨hok,hlt,hfn,hk⟩:=hk
  obtain ⟨b,off,rfl,g1,g2⟩:=hx
  obtain ⟨c,c1,c2,hrun⟩:=Gn (a:=⟨b,off+i*sz+f,none⟩) ht hi' hl hu hm hok hmx
  obtain ⟨⟨q1,q2⟩,q3,q4⟩:=hok
  refine ⟨_,_,hk,⟨_,(u.getD n).toNat-(l.getD 0).toNat,c-(l.getD 0).toNat,rfl,by simp;omega,by omega,by omega,?_⟩,hrun⟩
  by_cases hc:c=(l.getD 0).toNat
  ·left
   rw [show (u.getD n).toNat-(l.getD 0).toNat=0 by omega]
   simp
  ·right
   refine ⟨b,off+i*sz+f+(l.getD 0).toNat,by simp [hc,Addr.add_none,h1],g1,?_⟩
   refine eH fun j e' he'=>?_
   simp only [yac,yab] at he'
   obtain ⟨x,hx,rfl⟩:=he'
   rw [yaw] at hx
   split at hx
   ·rw [yaE,yaG] at hx
    obtain ⟨_,g3⟩:=eO g2 (yaf hlt)
    obtain ⟨v,g4,g5⟩:=gQ g3 hx
    refine ⟨rfl,⟨v,?_,g5⟩,trivial⟩
    rw [show off+i*sz+f+(l.getD 0).toNat+j*1=off+i*sz+(f+(l.getD 0).toNat+j) by omega]
    exact g4
   ·cases hx
 ·exact hk.elim
theorem Ol {o:Op} {p:Zp} {l:LOp} (hm:Ae P o p=some l):∃ p' xs,l=.prim p' xs:=by
 unfold Ae at hm
 (repeat' split at hm)<;>first|(cases hm;done)|(simp only [yaa] at hm;exact ⟨_,_,hm.symm⟩)
theorem Ta {o:Op} {p:Eff} {j:Nat} {l:LOp} (hm:Hr P o p j=some l):∃ p' xs,l=.eff p' j xs:=by
 unfold Hr at hm
 (repeat' split at hm)<;>first|(cases hm;done)|(simp only [yaa] at hm;exact ⟨_,_,hm.symm⟩)
theorem dS {e:Env} {a:Act} (he:cS ρ X w e a.tmps) {x:Operand} {K:IntKind→Int→Prop} (h:cE (ev e x) K):∃ k n,a.eval x=.int k n∧K k n:=by
 obtain ⟨k,n,h1,h2⟩:=cV h
 have:=aT he x
 rw [h1] at this
 exact ⟨k,n,this,h2⟩
theorem iI {e:Env} {a:Act} (he:cS ρ X w e a.tmps) {x:Operand} {K:ByteArray→Prop} (h:iA (ev e x) K):∃ t,a.eval x=.string t∧K t:=by
 unfold iA at h
 split at h
 ·rename_i t hv
  have:=aT he x
  rw [hv] at this
  exact ⟨t,this,h⟩
 ·exact h.elim
theorem Wh {x y:V} {xv yv:Value} {K:Bool→Prop} (hx:aX ρ X w x xv) (hy:aX ρ X w y yv) (hk:Gz x y K):∃ a,xv=.pointer a∧yv=.pointer none∧K a.isNone:=by
 unfold Gz at hk
 split at hk
 ·split at hk
  ·exact ⟨none,hx,hy,hk⟩
  ·exact ⟨_,hx.2,hy,hk⟩
  ·obtain ⟨b,off,rfl,_⟩:=hx
   exact ⟨_,rfl,hy,hk⟩
  ·exact hk.elim
 ·exact hk.elim
theorem Qm {t e:TypeId} (ht:P.underlying t=some (.pointer e)) (a:Option Addr) (w':World) :
  (binOp .eql t (.pointer a) (.pointer none)).run P w'=.ok (.bool a.isNone) w'∧(binOp .neq t (.pointer a) (.pointer none)).run P w'=.ok (.bool (!a.isNone)) w':=by
 have h:∀ d,(Op.equalIn (d+1) t (.pointer a) (.pointer none)).run P w'=.ok a.isNone w':=by
  intro d
  cases a<;>simp [Op.equalIn,run_underlying ht]
 constructor<;>simp [binOp,Op.equal,Op.maxDepth,h 9999]
theorem Va {t:TypeId} {s:ByteArray} {lo hi:Option Value} {l u:Option Int} (ht:P.underlying t=some .string) (hl:dL lo l) (hu:dL hi u) (hok:bN s.size l u none) (w':World) :
  (Instr.sliceAt t (.string s) lo hi none).run P w'=.ok (.string (s.extract (l.getD 0).toNat (u.getD s.size).toNat)) w':=by
 obtain ⟨⟨h1,h2⟩,h3,h4⟩:=hok
 simp only [yal] at h3 h4
 have hrun:∀ (x:Nat × Nat × Nat),(Instr.sliceBounds false s.size s.size lo hi none).run P w'=.ok x w'→(Instr.sliceAt t (.string s) lo hi none).run P w'=.ok (.string (s.extract x.1 x.2.1)) w':=by
  intro x hx
  simp [Instr.sliceAt,Instr.slice,run_underlying ht,hx]
 refine hrun ((l.getD 0).toNat,(u.getD s.size).toNat,s.size) ?_
 rcases hu with ⟨rfl,rfl⟩|⟨ku,iu,rfl,rfl⟩<;>rcases hl with ⟨rfl,rfl⟩|⟨kl,il,rfl,rfl⟩<;>simp only [yal,yai] at h1 h2 h3
 ·simp [Instr.sliceBounds]
 ·simp [Instr.sliceBounds,dT (P:=P) rfl h1 h2]
 ·simp [Instr.sliceBounds,dT (P:=P) rfl h2 (show iu≤(s.size:Int) by omega)]
 ·have e1:(iu.toNat:Int)=iu:=by omega
  simp [Instr.sliceBounds,dT (P:=P) rfl (show 0≤iu by omega) (show iu≤(s.size:Int) by omega),dT (P:=P) rfl h1 (show il≤(iu.toNat:Int) by omega)]
theorem Vm {op:BinOp} {t:TypeId} {s u:ByteArray} {K:V→Prop} (hk:nS op s u K):∃ y v,K y∧aX ρ X w y v∧∀ w',(binOp op t (.string s) (.string u)).run P w'=.ok v w':=by
 cases op<;>simp only [nS] at hk<;>try exact hk.elim
 case add =>
  refine ⟨_,_,hk.2,rfl,fun w'=>?_⟩
  have:¬(((s.size+u.size:Nat):Int)>IntKind.i64.max):=by
   simp only [IntKind.max,IntKind.signed,IntKind.bits]
   omega
  simp [binOp,Op.stringOp,IntKind.max,IntKind.signed,IntKind.bits]
  omega
 all_goals exact ⟨_,_,hk,rfl,fun w'=>by simp [binOp,Op.stringOp]⟩
theorem Ou {mx:Bool}:∀ {r:List V} {rs:List Value} {x:V} {xv:Value} {K:V→Prop},aX ρ X w x xv→bL ρ X w r rs→mmP mx x r K →
  ∃ z val,K z∧aX ρ X w z val∧∀ w',(rs.foldlM (if mx then Builtin.max2 else Builtin.min2) xv).run P w'=.ok val w'
 | [],[],x,xv,K,hx,_,h=>⟨x,xv,h,hx,fun w'=>by simp⟩
 | y::r,yv::rs,x,xv,K,hx,hr,h=>by
  simp only [mmP] at h
  obtain ⟨k,n,rfl,h1⟩:=cV h
  obtain ⟨k',n',rfl,rfl,h2⟩:=cV h1
  have hx':xv=.int k' n:=hx
  have hy':yv=.int k' n':=hr.1
  subst hx'
  subst hy'
  obtain ⟨z,val,g1,g2,g3⟩:=Ou (x:=.v (.int k' (if mx then max n n' else min n n'))) (xv:=.int k' (if mx then max n n' else min n n')) rfl hr.2 h2
  refine ⟨z,val,g1,g2,fun w'=>?_⟩
  have hmax:(if n<n' then n' else n)=max n n':=by rw [Int.max_def];split<;>split<;>omega
  have hmin:(if n'<n then n' else n)=min n n':=by rw [Int.min_def];split<;>split<;>omega
  have:=g3 w'
  cases mx
  ·simp only [yay,if_false] at this ⊢
   simp [List.foldlM_cons,Builtin.min2,hmin,this]
  ·simp only [if_true] at this ⊢
   simp [List.foldlM_cons,Builtin.max2,hmax,this]
 | [],_::_,_,_,_,_,h,_=>h.elim
 | _::_,[],_,_,_,_,h,_=>h.elim
theorem Ev {e:Env} {a:Act} (he:cS ρ X w e a.tmps):∀ xs:List Operand,bL ρ X w (xs.map (ev e)) (xs.map a.eval)
 | []=>trivial
 | x::r=>⟨aT he x,Ev he r⟩
theorem Hm {h:List Blk} (hr:Rep ρ X w h) {g n:Nat} {cs:List Value} (ht:Lv g n=some cs) :
  cs.length=n∧Tb g∧Len ρ w g∧∀ j v,cs[j]?=some v→w.cell? ⟨g,j,none⟩=some v∧isD (.v v)=true:=by
 unfold Lv at ht
 split at ht
 ·rename_i p hp
  split at ht
  ·rename_i hc
   simp only [yaa] at ht
   subst ht
   have hm:=List.mem_of_find?_eq_some hp
   have hg:p.1=g:=by simpa using List.find?_some hp
   have htb:Tb g:=⟨p,hm,hg⟩
   refine ⟨hc.1,htb,⟨hr.xlt.1 g (.inr htb),fun ho=>hr.disj g ho (.inr htb)⟩,fun j v hv=>?_⟩
   obtain ⟨hj,rfl⟩:=yao.1 hv
   refine ⟨?_,yaI.1 hc.2 _ (List.getElem_mem hj)⟩
   have:=hr.xlt.2 p hm j hj
   rw [hg] at this
   exact this
  ·cases ht
 ·cases ht
theorem Wf {o:Oper} {p0:Zp} {l:LOp} {a:Act} {s:St} {cx:Cx} {K:V→St→Prop} (hm:Ae P o.op p0=some l)
  (hr:Rep ρ X w s.h) (he:cS ρ X w s.e a.tmps) (h:aOp cx l s K):(∀ n p,l≠.load n p)∧∃ x val,K x s∧aX ρ X w x val∧∀ w',(execOp a.eval o).run P w'=.ok (.value val) w':=by
 unfold execOp
 generalize o.op=op at hm ⊢
 unfold Ae at hm
 split at hm
 ·-- pidx
  rename_i t x i
  split at hm
  ·rename_i m e hu
   split at hm
   ·rename_i inf hi
    simp only [yaa] at hm
    subst hm
    refine ⟨by simp,?_⟩
    obtain ⟨k,n,hi',h0,h⟩:=dS he (x:=i) h
    have hx:=aT he x
    have hidx:∀ (b f:Nat) (w':World),(Instr.indexAt t (.pointer (some ⟨b,f,none⟩)) (.int k n)).run P w'=.ok (.pointer (some ⟨b,f+n.toNat*inf.size,none⟩)) w':=by
     intro b f w'
     simp [Instr.indexAt,Instr.sureAddr,asIntOf,run_underlying hu,h0.1,h0.2,sizeOf,typeInfo,hi,Addr.add_none]
    unfold Ha at h
    split at h
    ·rename_i k' i' f hv
     rw [hv] at hx
     obtain ⟨hreal,hpv⟩:=hx
     refine ⟨_,.pointer (some ⟨(ρ k').blk,(ρ k').off+i'*(ρ k').sz+(f+n.toNat*inf.size),none⟩),h,⟨hreal,rfl⟩,fun w'=>?_⟩
     simp only [hpv,hi',Sem.run_bind,hidx,Result.andThen_ok,yan]
     rfl
    ·rename_i sz els i' f hv
     rw [hv] at hx
     obtain ⟨b,off,hpv,g1,g2⟩:=hx
     refine ⟨_,.pointer (some ⟨b,off+i'*sz+(f+n.toNat*inf.size),none⟩),h,⟨b,off,rfl,g1,g2⟩,fun w'=>?_⟩
     simp only [hpv,hi',Sem.run_bind,hidx,Result.andThen_ok,yan]
     rfl
    ·exact h.elim
   ·cases hm
  ·cases hm
 ·-- pslc
  rename_i t x lo hi mx
  split at hm
  ·rename_i m e hu
   split at hm
   ·rename_i inf hinf
    split at hm
    ·rename_i hc
     obtain ⟨hs1,hmx0,hml⟩:=hc
     simp only [yaa] at hm
     subst hm
     refine ⟨by simp,?_⟩
     have hmx:mx.map a.eval≠none→hi.map a.eval≠none:=by
      cases mx<;>cases hi<;>simp_all
     have fin:∀ {l u m':Option Int},dL (lo.map a.eval) l→dL (hi.map a.eval) u→dL (mx.map a.eval) m'→gG s.h m (ev s.e x) l u m' (fun x=>K x s) →
       ∃ x_1 val,K x_1 s∧aX ρ X w x_1 val∧∀ w',(do pure (Next.value (← Instr.sliceAt t (a.eval x) (lo.map a.eval) (hi.map a.eval) (mx.map a.eval))):Sem Next).run P w'=.ok (.value val) w':=by
      intro l u m' hl hu' hm' hk
      obtain ⟨y,v,h4,h5,h6⟩:=Sr hu hinf hs1 hml hr (aT he x) hl hu' hm' hmx hk
      exact ⟨y,v,h4,h5,fun w'=>by simp [h6 w']⟩
     have nb:dL (none:Option Value) none:=.inl ⟨rfl,rfl⟩
     have sb:∀ {y:Operand} {k:IntKind} {n:Int},a.eval y=.int k n→dL ((some y).map a.eval) (some n):=fun {y k n} hy=>.inr ⟨k,n,by simp [hy],rfl⟩
     cases lo with
     | none=>cases hi with
      | none=>cases mx with
       | none=>exact fin nb nb nb h
       | some _=>simp at hmx0
      | some u=>cases mx with
       | none =>
        obtain ⟨k,n,g1,h⟩:=dS he (x:=u) h
        exact fin nb (sb g1) nb h
       | some q =>
        obtain ⟨k,n,g1,h⟩:=dS he (x:=u) h
        obtain ⟨k',n',g2,h⟩:=dS he (x:=q) h
        exact fin nb (sb g1) (sb g2) h
     | some l=>cases hi with
      | none=>cases mx with
       | none =>
        obtain ⟨k,n,g1,h⟩:=dS he (x:=l) h
        exact fin (sb g1) nb nb h
       | some _=>simp at hmx0
      | some u=>cases mx with
       | none =>
        obtain ⟨k,n,g1,h⟩:=dS he (x:=l) h
        obtain ⟨k',n',g2,h⟩:=dS he (x:=u) h
        exact fin (sb g1) (sb g2) nb h
       | some q =>
        obtain ⟨k,n,g1,h⟩:=dS he (x:=l) h
        obtain ⟨k',n',g2,h⟩:=dS he (x:=u) h
        obtain ⟨k'',n'',g3,h⟩:=dS he (x:=q) h
        exact fin (sb g1) (sb g2) (sb g3) h
    ·cases hm
   ·cases hm
  ·cases hm
 ·-- peq
  rename_i op t x y _
  split at hm
  ·rename_i e hu
   have hb:∃ neg,l=.prim (.peq neg) [x,y]∧op=(if neg then .neq else .eql):=by
    split at hm
    ·simp only [yaa] at hm;exact ⟨false,hm.symm,rfl⟩
    ·simp only [yaa] at hm;exact ⟨true,hm.symm,rfl⟩
    ·cases hm
   obtain ⟨neg,rfl,rfl⟩:=hb
   refine ⟨by simp,?_⟩
   have h':Gz (ev s.e x) (ev s.e y) fun t=>K (.b (if neg then !t else t)) s:=h
   obtain ⟨ad,g1,g2,h⟩:=Wh (aT he x) (aT he y) h'
   refine ⟨_,_,h,rfl,fun w'=>?_⟩
   cases neg
   ·simp [g1,g2,eqGuard,(Qm hu ad w').1]
   ·simp [g1,g2,eqGuard,(Qm hu ad w').2]
  ·cases hm
 ·-- aidx
  rename_i t x i
  split at hm
  ·rename_i m e hu
   split at hm
   ·rename_i inf d hi hd
    simp only [yaa] at hm
    subst hm
    refine ⟨by simp,?_⟩
    obtain ⟨k,n,hi',h0,h⟩:=dS he (x:=i) h
    have hx:=aT he x
    simp only [He] at h
    split at h
    ·rename_i cs hv
     rw [hv] at hx
     obtain ⟨arr,hav,hl⟩:=hx
     obtain ⟨y,v,g1,g2,g3⟩:=In hi hd rfl hl h
     refine ⟨y,v,g1,g2,fun w'=>?_⟩
     simp [Instr.index,asIntOf,hi',hav,run_underlying hu,h0.1,h0.2,sizeOf,typeInfo,hi,g3 w']
    ·exact h.elim
   ·cases hm
  ·cases hm
 ·-- aeq
  rename_i op t x y _
  split at hm
  ·rename_i hc
   obtain ⟨hgd,hrow⟩:=hc
   have hb:∃ neg ks it,l=.prim (.aeq neg ks) [x,y]∧op=(if neg then .neq else .eql)∧bW P 100 t 0=some ks∧P.info? t=some it:=by
    split at hm
    ·rename_i it ks hit hks;simp only [yaa] at hm;exact ⟨false,ks,it,hm.symm,rfl,hks,hit⟩
    ·rename_i it ks hit hks;simp only [yaa] at hm;exact ⟨true,ks,it,hm.symm,rfl,hks,hit⟩
    ·cases hm
   obtain ⟨neg,ks,it,rfl,rfl,hks,hit⟩:=hb
   refine ⟨by simp,?_⟩
   obtain ⟨xs,h1,h⟩:=dO h
   obtain ⟨ys,h2,h⟩:=dO h
   obtain ⟨ax,hx',hxr⟩:=xH h1 (aT he x)
   obtain ⟨ay,hy',hyr⟩:=xH h2 (aT he y)
   obtain ⟨b,g1,g2⟩:=Fp hxr hyr (by decide:100<10000) hrow hks h
   refine ⟨_,_,g1,rfl,fun w'=>?_⟩
   have hg:=run_eqGuard_agg (P:=P) w' (if neg then .neq else .eql) t x y ax ay hgd
   cases neg
   ·simp only [yay,if_false] at hg ⊢
    simp [hx',hy',hg,run_eql_struct,g2 w']
   ·simp only [if_true] at hg ⊢
    simp [hx',hy',hg,run_neq_struct,g2 w']
  ·cases hm
 ·-- sidx
  rename_i t x i
  split at hm
  ·rename_i hu
   simp only [yaa] at hm
   subst hm
   refine ⟨by simp,?_⟩
   obtain ⟨st,g1,h⟩:=iI he (x:=x) h
   obtain ⟨k,n,g2,h0,h⟩:=dS he (x:=i) h
   obtain ⟨b,g3,h⟩:=dO h
   refine ⟨_,_,h,rfl,fun w'=>?_⟩
   simp [Instr.index,asIntOf,g1,g2,run_underlying hu,h0,g3]
  ·cases hm
 ·-- sslc
  rename_i t x lo hi
  split at hm
  ·rename_i hu
   simp only [yaa] at hm
   subst hm
   refine ⟨by simp,?_⟩
   have nb:dL (none:Option Value) none:=.inl ⟨rfl,rfl⟩
   have sb:∀ {y:Operand} {k:IntKind} {n:Int},a.eval y=.int k n→dL ((some y).map a.eval) (some n):=fun {y k n} hy=>.inr ⟨k,n,by simp [hy],rfl⟩
   have fin:∀ {l u:Option Int} {st:ByteArray},a.eval x=.string st→dL (lo.map a.eval) l→dL (hi.map a.eval) u→pP st l u (fun x=>K x s) →
     ∃ x_1 val,K x_1 s∧aX ρ X w x_1 val∧∀ w',(do pure (Next.value (← Instr.sliceAt t (a.eval x) (lo.map a.eval) (hi.map a.eval) (none.map a.eval))):Sem Next).run P w'=.ok (.value val) w':=by
    intro l u st g1 hl hu' hk
    refine ⟨_,_,hk.2,rfl,fun w'=>?_⟩
    simp [g1,Va hu hl hu' hk.1 w']
   cases lo with
   | none=>cases hi with
    | none =>
     obtain ⟨st,g1,h⟩:=iI he (x:=x) h
     exact fin g1 nb nb h
    | some u =>
     obtain ⟨st,g1,h⟩:=iI he (x:=x) h
     obtain ⟨k,n,g2,h⟩:=dS he (x:=u) h
     exact fin g1 nb (sb g2) h
   | some l=>cases hi with
    | none =>
     obtain ⟨st,g1,h⟩:=iI he (x:=x) h
     obtain ⟨k,n,g2,h⟩:=dS he (x:=l) h
     exact fin g1 (sb g2) nb h
    | some u =>
     obtain ⟨st,g1,h⟩:=iI he (x:=x) h
     obtain ⟨k,n,g2,h⟩:=dS he (x:=l) h
     obtain ⟨k',n',g3,h⟩:=dS he (x:=u) h
     exact fin g1 (sb g2) (sb g3) h
  ·cases hm
 ·-- sbin
  rename_i op t x y _
  split at hm
  ·rename_i hu
   simp only [yaa] at hm
   subst hm
   refine ⟨by simp,?_⟩
   obtain ⟨st,g1,h⟩:=iI he (x:=x) h
   obtain ⟨su,g2,h⟩:=iI he (x:=y) h
   obtain ⟨z,v,g3,g4,g5⟩:=Vm (ρ:=ρ) (X:=X) (w:=w) (P:=P) (t:=t) h
   refine ⟨z,v,g3,g4,fun w'=>?_⟩
   have hg:(eqGuard op t x y (.string st) (.string su)).run P w'=.ok () w':=by
    unfold eqGuard
    split<;>rfl
   simp [g1,g2,hg,g5 w']
  ·cases hm
 ·-- mm
  rename_i c
  split at hm
  ·rename_i x r hcal hargs
   simp only [yaa] at hm
   subst hm
   refine ⟨by simp,?_⟩
   have ha:=bM hargs
   obtain ⟨z,val,g1,g2,g3⟩:=Ou (P:=P) (aT he x) (Ev he r) h
   refine ⟨z,val,g1,g2,fun w'=>?_⟩
   have:=g3 w'
   simp only [yay,if_false] at this
   simp [resolve,hcal,ha,invoke,builtin,Builtin.min_,this]
  ·rename_i x r hcal hargs
   simp only [yaa] at hm
   subst hm
   refine ⟨by simp,?_⟩
   have ha:=bM hargs
   obtain ⟨z,val,g1,g2,g3⟩:=Ou (P:=P) (aT he x) (Ev he r) h
   refine ⟨z,val,g1,g2,fun w'=>?_⟩
   have:=g3 w'
   simp only [if_true] at this
   simp [resolve,hcal,ha,invoke,builtin,Builtin.max_,this]
  ·cases hm
 ·-- gidx
  rename_i t g i
  split at hm
  ·rename_i m e hu
   split at hm
   ·rename_i inf hi
    split at hm
    ·rename_i hs1
     simp only [yaa] at hm
     subst hm
     refine ⟨by simp,?_⟩
     obtain ⟨k,n,hi',h0,h⟩:=dS he (x:=i) h
     obtain ⟨cs,htk,h⟩:=dO h
     obtain ⟨hlen,hin,hlt,hcell⟩:=Hm hr htk
     have hidx:∀ (w':World),(Instr.indexAt t (.pointer (some ⟨g,0,none⟩)) (.int k n)).run P w'=.ok (.pointer (some ⟨g,0+n.toNat*inf.size,none⟩)) w':=by
      intro w'
      simp [Instr.indexAt,Instr.sureAddr,asIntOf,run_underlying hu,h0.1,h0.2,sizeOf,typeInfo,hi,Addr.add_none]
     refine ⟨_,.pointer (some ⟨g,0+n.toNat*inf.size,none⟩),h,⟨g,0,by rw [hs1];simp,hlt,eH fun j e' he'=>?_⟩,fun w'=>?_⟩
     ·rw [yac,yab] at he'
      obtain ⟨v,hv,rfl⟩:=he'
      exact ⟨rfl,⟨v,by simpa using (hcell j v hv).1,rfl,(hcell j v hv).2⟩,trivial⟩
     ·have hev:a.eval (.global g)=.pointer (some ⟨g,0,none⟩):=rfl
      simp only [hev,hi',Sem.run_bind,hidx,Result.andThen_ok]
      rfl
    ·cases hm
   ·cases hm
  ·cases hm
 ·-- s2a
  rename_i t x
  split at hm
  ·rename_i m e hu
   simp only [yaa] at hm
   subst hm
   refine ⟨by simp,?_⟩
   have hx:=aT he x
   have h':Oi m (ev s.e x) (fun x=>K x s):=h
   unfold Oi at h'
   split at h'
   ·rename_i k i n hxk
    rw [hxk] at hx
    obtain ⟨⟨h0,hmn⟩,hK⟩:=h'
    obtain ⟨cap,hc1,hc2,hc3⟩:=hx
    rcases hc3 with ⟨rfl,_⟩|⟨hreal,hv,_⟩
    ·omega
    ·refine ⟨_,.pointer (some ⟨(ρ k).blk,(ρ k).off+i*(ρ k).sz,none⟩),hK,⟨hreal,rfl⟩,fun w'=>?_⟩
     have:¬n<m:=by omega
     simp [Instr.arrayAt,run_underlying hu,hv,this]
   ·exact h'.elim
  ·cases hm
 ·-- cpl
  rename_i t x
  simp only [yaa] at hm
  subst hm
  refine ⟨by simp,?_⟩
  obtain ⟨k,n,hx,h⟩:=dS he (x:=x) h
  refine ⟨_,_,h,rfl,fun w'=>?_⟩
  simp [hx,Op.unary,Op.intBits]
 ·cases hm
theorem Ej {o:Oper} {l0 l:LOp} {a:Act} {s:St} {cx:Cx} {K:V→St→Prop} (hq:bH l=true) (hm:rl P o.op l0=some l)
  (hr:Rep ρ X w s.h) (he:cS ρ X w s.e a.tmps) (h:aOp cx l s K):∃ x val,K x s∧aX ρ X w x val∧∀ w',QOk ρ w s l w'→(execOp a.eval o).run P w'=.ok (.value val) w':=by
 rcases Mf hm with rfl|hm|⟨p,hm⟩|⟨p,j,hm⟩
 ·simp [bH] at hq
 ·exact Tc hq hm hr he h
 ·obtain ⟨_,x,val,h1,h2,h3⟩:=Wf hm hr he h
  exact ⟨x,val,h1,h2,fun w' _=>h3 w'⟩
 ·obtain ⟨p',xs,rfl⟩:=Ta hm
  simp [bH] at hq
theorem Bn {o:Oper} {l0 l:LOp} {a:Act} {s:St} {cx:Cx} {K:V→St→Prop} (hq:bH l=true) (hm:rl P o.op l0=some l)
  (hr:Rep ρ X w s.h) (he:cS ρ X w s.e a.tmps) (h:aOp cx l s K):∃ x val,K x s∧aX ρ X w x val∧anL P o a w val:=by
 obtain ⟨x,val,h1,h2,h3⟩:=Ej hq hm hr he h
 refine ⟨x,val,h1,h2,fun w' hw'=>h3 w' ?_⟩
 unfold QOk
 split
 ·exact fun b _=>hw' b
 ·trivial
end
end Go.Fx
namespace Go.Fx
open Go.RowKit
section
variable {ρ ρ':Nat→Loc} {X:Nat→Prop} {w w':World} {P:Program}
def upd (ρ:Nat→Loc) (k:Nat) (l:Loc):Nat→Loc:=fun j=>if j=k then l else ρ j
theorem upd_same (ρ:Nat→Loc) (k:Nat) (l:Loc):upd ρ k l k=l:=by simp [upd]
theorem aV (ρ:Nat→Loc) {k j:Nat} (l:Loc) (h:j≠k):upd ρ k l j=ρ j:=by simp [upd,h]
theorem gJ (M:List Nat):∀ xs:List V,bD M xs=xs.map (kill M)
 | []=>rfl
 | x::r=>by simp [bD,gJ M r]
theorem tQ (M:List Nat) (xs:List V):(bD M xs).length=xs.length:=by simp [gJ]
theorem a8 (k:List Nat):∀ (e:Env) (i:Nat),get (aM k e) i=kill k (get e i)
 | [],_=>by simp [get,aM,kill]
 | (j,x)::r,i=>by
  simp only [get,aM]
  split
  ·rfl
  ·exact a8 k r i
theorem gR (hf:Fr ρ w ρ' w') (hag:∀ k,(ρ k).real=true→ρ' k=ρ k) {j:Nat} (hj:ρ' j=ρ j) (hb:(ρ j).real=true→w'.heap[(ρ j).blk]?=w.heap[(ρ j).blk]?) {B:Blk} (h:bE ρ X w j B):bE ρ' X w' j B:=by
 cases B with
 | dead=>simp only [bE] at h ⊢;rw [hj];exact h
 | arr sz els =>
  simp only [bE] at h ⊢
  rw [hj]
  refine ⟨h.1,h.2.imp id ?_⟩
  rintro ⟨h1,c,T,h2,h3,h4,h5⟩
  exact ⟨h1,c,T,(hb h1).trans h2,h3,h4,aW hf.sta sz _ (hb h1) _ _ h5⟩
 | var cs =>
  simp only [bE] at h ⊢
  rw [hj]
  obtain ⟨h1,c,T,h2,h3⟩:=h
  exact ⟨h1,c,T,(hb h1.1).trans h2,eG hf hag _ _ h3.1,h3.2⟩
 | arv sz els =>
  simp only [bE] at h ⊢
  rw [hj]
  obtain ⟨h0,h1,c,T,h2,h3,h4,h5⟩:=h
  refine ⟨h0,h1,c,T,(hb h1).trans h2,h3,h4,fun i e he=>⟨(h5 i e he).1,fun f x hx=>?_⟩⟩
  obtain ⟨u,h6,h7⟩:=(h5 i e he).2 f x hx
  exact ⟨u,h6,bT hf hag _ _ h7⟩
 | map es cl =>
  simp only [bE] at h ⊢
  rw [hj]
  obtain ⟨h1,arr,h2,h3,h4⟩:=h
  exact ⟨h1,arr,(hb h1.1).trans h2,h3,eG hf hag _ _ h4⟩
 | it m s sn l =>
  simp only [bE] at h ⊢
  rw [hj]
  obtain ⟨h1,x,h2,h3⟩:=h
  exact ⟨h1,x,(hb h1.1).trans h2,bT hf hag _ _ h3⟩
 | rcd t e =>
  simp only [bE] at h ⊢
  rw [hj]
  exact ⟨uS hb h.1,fun i=>bT hf hag _ _ (h.2 i)⟩
theorem Jd (hf:Fr ρ w ρ' w') (M:List Nat) (hag:∀ k,k∉M→(ρ k).real=true→ρ' k=ρ k) {j:Nat} (hj:ρ' j=ρ j) (hb:(ρ j).real=true→w'.heap[(ρ j).blk]?=w.heap[(ρ j).blk]?) {B:Blk} (h:bE ρ X w j B):bE ρ' X w' j (aK M B):=by
 cases B with
 | dead=>simp only [bE,aK] at h ⊢;rw [hj];exact h
 | arr sz els =>
  simp only [bE,aK] at h ⊢
  rw [hj]
  refine ⟨h.1,h.2.imp id ?_⟩
  rintro ⟨h1,c,T,h2,h3,h4,h5⟩
  exact ⟨h1,c,T,(hb h1).trans h2,h3,h4,aW hf.sta sz _ (hb h1) _ _ h5⟩
 | var cs =>
  simp only [bE,aK] at h ⊢
  rw [hj]
  obtain ⟨h1,c,T,h2,h3⟩:=h
  exact ⟨h1,c,T,(hb h1.1).trans h2,i7 hf M hag _ _ h3.1,h3.2⟩
 | arv sz els =>
  simp only [bE,aK] at h ⊢
  rw [hj]
  obtain ⟨h0,h1,c,T,h2,h3,h4,h5⟩:=h
  refine ⟨h0,h1,c,T,(hb h1).trans h2,h3,by simpa using h4,fun i e he=>?_⟩
  simp only [yac,yab] at he
  obtain ⟨e0,he0,rfl⟩:=he
  refine ⟨by rw [tQ];exact (h5 i e0 he0).1,fun f x hx=>?_⟩
  simp only [gJ,yac,yab] at hx
  obtain ⟨x0,hx0,rfl⟩:=hx
  obtain ⟨u,h6,h7⟩:=(h5 i e0 he0).2 f x0 hx0
  exact ⟨u,h6,gN hf M hag _ _ h7⟩
 | map es cl =>
  simp only [bE,aK] at h ⊢
  rw [hj]
  obtain ⟨h1,arr,h2,h3,h4⟩:=h
  refine ⟨h1,arr,(hb h1.1).trans h2,by rw [h3];simp,?_⟩
  rw [show (yaB (fun e:Value × V × Nat=>(e.1,kill M e.2.1,e.2.2)) es).map (·.2.1)=bD M (es.map (·.2.1)) by rw [gJ];simp]
  exact i7 hf M hag _ _ h4
 | it m s sn l =>
  simp only [bE,aK] at h ⊢
  rw [hj]
  obtain ⟨h1,x,h2,h3⟩:=h
  exact ⟨h1,x,(hb h1.1).trans h2,gN hf M hag _ _ h3⟩
 | rcd t e =>
  simp only [bE,aK] at h ⊢
  rw [hj]
  exact ⟨uS hb h.1,fun i=>by rw [a8];exact gN hf M hag _ _ (h.2 i)⟩
theorem gL {h:List Blk} {k:Nat} (hf:aF h k):h[k]?=some .dead:=by
 unfold aF at hf
 split at hf
 ·assumption
 ·exact hf.elim
theorem bF {e:Env} {t:Array Value} (hf:Fr ρ w ρ' w') (hag:∀ k,(ρ k).real=true→ρ' k=ρ k) (he:cS ρ X w e t):cS ρ' X w' e t :=
 fun i=>bT hf hag _ _ (he i)
theorem t6 {e:Env} {t:Array Value} (hf:Fr ρ w ρ' w') (M:List Nat) (hag:∀ k,k∉M→(ρ k).real=true→ρ' k=ρ k) (he:cS ρ X w e t):cS ρ' X w' (aM M e) t :=
 fun i=>by rw [a8];exact gN hf M hag _ _ (he i)
structure Made (w w':World) (o:Obj):Prop where
 os:w'.os=w.os
 tape:w'.tape=w.tape
 output:w'.output=w.output
 heap:w'.heap=w.heap.push o
theorem Made.alloc (w:World) (o:Obj):Made w (w.alloc o) o:=⟨rfl,rfl,rfl,rfl⟩
theorem Made.drewAlloc (w:World) (o:Obj):Made w (w.drew.alloc o) o:=⟨rfl,rfl,rfl,rfl⟩
theorem Made.size {o:Obj} (h:Made w w' o):w'.heap.size=w.heap.size+1:=by simp [h.heap]
theorem Made.new {o:Obj} (h:Made w w' o):w'.heap[w.heap.size]?=some o:=by simp [h.heap]
theorem Made.old {o:Obj} (h:Made w w' o) {b:Nat} (hb:b<w.heap.size):w'.heap[b]?=w.heap[b]?:=by
 rw [h.heap,Array.getElem?_push,if_neg (by omega)]
theorem q9 {o:Obj} (hm:Made w w' o) {k:Nat} {l:Loc} (hl:l.blk=w.heap.size):Fr ρ w (upd ρ k l) w' where
 os:=hm.os
 tape:=hm.tape
 output:=hm.output
 size:=by rw [hm.size];omega
 keep b hb ho:=by
  refine ⟨hm.old hb,?_⟩
  rintro ⟨j,h1,h2⟩
  by_cases hj:j=k
  ·subst hj
   rw [upd_same] at h2
   omega
  ·rw [aV _ _ hj] at h1 h2
   exact ho ⟨j,h1,h2⟩
theorem rA {k:Nat} (hk:(ρ k).real=false) (l:Loc):∀ j,(ρ j).real=true→upd ρ k l j=ρ j:=by
 intro j hj
 by_cases h:j=k
 ·subst h;rw [hk] at hj;cases hj
 ·exact aV _ _ h
theorem vU {h:List Blk} (hr:Rep ρ X w h) {o:Obj} (hm:Made w w' o) {k:Nat} (hk:h[k]?=some .dead) {l:Loc} (hl:l.blk=w.heap.size) {B:Blk}
  (hB:bE (upd ρ k l) X w' k B):Rep (upd ρ k l) X w' (h.set k B):=by
 have hkr:(ρ k).real=false:=hr.blk k _ hk
 have hf:=q9 (ρ:=ρ) hm (k:=k) hl
 have hag:=rA hkr l
 have hklt:k<h.length:=(yao.1 hk).1
 refine ⟨?_,?_,?_,?_,?_,?_⟩
 ·intro i j hij hi hj
  by_cases h1:i=k
  ·subst h1
   rw [upd_same,aV _ _ (Ne.symm hij)] at *
   have:=hr.lt j hj
   omega
  ·by_cases h2:j=k
   ·subst h2
    rw [upd_same,aV _ _ h1] at *
    have:=hr.lt i hi
    omega
   ·rw [aV _ _ h1] at hi ⊢
    rw [aV _ _ h2] at hj ⊢
    exact hr.inj i j hij hi hj
 ·intro j hj
  rw [aV _ _ (by simp at hj;omega)]
  exact hr.out j (by simpa using hj)
 ·intro j B' hB'
  by_cases h1:j=k
  ·subst h1
   rw [yas hklt] at hB'
   simp only [yaa] at hB'
   subst hB'
   exact hB
  ·rw [yap (Ne.symm h1)] at hB'
   exact gR hf hag (aV _ _ h1) (fun hj=>hm.old (hr.lt j hj)) (hr.blk j B' hB')
 ·rintro b ⟨j,h1,h2⟩ hx
  by_cases h3:j=k
  ·subst h3
   rw [upd_same] at h2
   have:=hr.xlt.1 b hx
   omega
  ·rw [aV _ _ h3] at h1 h2
   exact hr.disj b ⟨j,h1,h2⟩ hx
 ·intro j hj
  rw [hm.size]
  by_cases h3:j=k
  ·subst h3
   rw [upd_same]
   omega
  ·rw [aV _ _ h3] at hj ⊢
   have:=hr.lt j hj
   omega
 ·exact hr.xfr hf
theorem c6 (b:Nat):∀ (vs:List Value) (o:Nat) (w:World) (c:Array Value) (T:TypeId) (fz:Nat × Nat),w.heap[b]?=some (.cells c T fz)→o+vs.length≤c.size →
  ∃ c',(w.setCells b o vs).heap[b]?=some (.cells c' T fz)∧c'.size=c.size∧∀ i,c'[i]?=if o≤i∧i<o+vs.length then vs[i-o]? else c[i]?
 | [],o,w,c,T,fz,h,_=>⟨c,h,rfl,fun i=>by rw [if_neg (by rintro ⟨h1,h2⟩;simp at h2;omega)]⟩
 | v::r,o,w,c,T,fz,h,hl=>by
  have h1:(w.setCell ⟨b,o,none⟩ v).heap[b]?=some (.cells (c.setIfInBounds o v) T fz):=by
   simp [World.setCell,yaJ,h]
  obtain ⟨c',h2,h3,h4⟩:=c6 b r (o+1) _ _ T fz h1 (by simp at hl ⊢;omega)
  refine ⟨c',h2,by simpa using h3,fun i=>?_⟩
  rw [h4 i]
  by_cases hi:i=o
  ·subst hi
   rw [if_neg (by omega),if_pos (by simp)]
   simp at hl
   simp [yav]
   omega
  ·by_cases h5:o+1≤i∧i<o+1+r.length
   ·rw [if_pos h5,if_pos (by simp;omega)]
    obtain ⟨m,rfl⟩:∃ m,i=o+1+m:=⟨i-(o+1),by omega⟩
    rw [show o+1+m-(o+1)=m by omega,show o+1+m-o=m+1 by omega]
    simp
   ·rw [if_neg h5,if_neg (by simp;omega),yav,if_neg (by omega)]
theorem cU (b:Nat):∀ (vs:List Value) (o:Nat) (w:World) (j:Nat),j≠b→(w.setCells b o vs).heap[j]?=w.heap[j]?
 | [],_,_,_,_=>rfl
 | v::r,o,w,j,h=>by
  rw [World.setCells,cU b r (o+1) _ j h]
  simp [World.setCell,yaJ,Ne.symm h]
theorem setCells_size (b:Nat):∀ (vs:List Value) (o:Nat) (w:World),(w.setCells b o vs).heap.size=w.heap.size
 | [],_,_=>rfl
 | v::r,o,w=>by rw [World.setCells,setCells_size b r];simp [World.setCell]
theorem gU (b:Nat):∀ (vs:List Value) (o:Nat) (w:World),(w.setCells b o vs).os=w.os∧(w.setCells b o vs).tape=w.tape∧(w.setCells b o vs).output=w.output
 | [],_,_=>⟨rfl,rfl,rfl⟩
 | v::r,o,w=>by rw [World.setCells];exact gU b r _ _
theorem f7 {h:List Blk} (_hr:Rep ρ X w h) {k:Nat} (hk:(ρ k).real=true) (o:Nat) (vs:List Value):Fr ρ w ρ (w.setCells (ρ k).blk o vs) where
 os:=(gU _ vs o w).1
 tape:=(gU _ vs o w).2.1
 output:=(gU _ vs o w).2.2
 size:=by rw [setCells_size];omega
 keep b _ ho:=⟨cU _ _ _ _ _ (fun e=>ho ⟨k,hk,e.symm⟩),ho⟩
theorem iU {h:List Blk} (hr:Rep ρ X w h) {k:Nat} (hk:(ρ k).real=true) {o:Nat} {vs:List Value} {B:Blk} (hB:bE ρ X (w.setCells (ρ k).blk o vs) k B):Rep ρ X (w.setCells (ρ k).blk o vs) (h.set k B):=by
 have hf:=f7 hr hk o vs
 have hklt:k<h.length:=by
  rcases Nat.lt_or_ge k h.length with h1|h1
  ·exact h1
  ·rw [hr.out k h1] at hk;cases hk
 refine ⟨hr.inj,fun j hj=>hr.out j (by simpa using hj),?_,hr.disj,fun j hj=>by rw [setCells_size];exact hr.lt j hj,hr.xfr hf⟩
 intro j B' hB'
 by_cases h1:j=k
 ·subst h1
  rw [yas hklt] at hB'
  simp only [yaa] at hB'
  subst hB'
  exact hB
 ·rw [yap (Ne.symm h1)] at hB'
  exact gR hf (fun _ _=>rfl) rfl (fun hj=>cU _ _ _ _ _ (hr.inj j k h1 hj hk)) (hr.blk j B' hB')
end
end Go.Fx
namespace Go.Fx
open Go.RowKit Go.MapKept
section
variable {ρ ρ':Nat→Loc} {X:Nat→Prop} {w w':World} {P:Program}
def gO (ρ:Nat→Loc) (X:Nat→Prop) (w:World):List (Value × V × Nat)→List MapEntry→Prop
 | [],[]=>True
 | a::r,e::l=>((e.key=a.1∧e.born=a.2.2)∧aX ρ X w a.2.1 e.val)∧gO ρ X w r l
 | _,_=>False
theorem Qr:∀ {es:List (Value × V × Nat)} {l:List MapEntry},l.map (fun e=>(e.key,e.born))=es.map (fun e=>(e.1,e.2.2))→bL ρ X w (es.map (·.2.1)) (l.map (·.val))→gO ρ X w es l
 | [],[],_,_=>trivial
 | a::r,e::l,h,hl=>by
  simp only [List.map_cons,List.cons.injEq,Prod.mk.injEq] at h
  exact ⟨⟨⟨h.1.1,h.1.2⟩,hl.1⟩,Qr h.2 hl.2⟩
 | [],_::_,h,_=>by simp at h
 | _::_,[],h,_=>by simp at h
theorem Qq:∀ {es:List (Value × V × Nat)} {l:List MapEntry},gO ρ X w es l→l.map (fun e=>(e.key,e.born))=es.map (fun e=>(e.1,e.2.2))∧bL ρ X w (es.map (·.2.1)) (l.map (·.val))
 | [],[],_=>⟨rfl,trivial⟩
 | a::r,e::l,h=>by
  obtain ⟨h1,h2⟩:=Qq h.2
  exact ⟨by simp [h.1.1.1,h.1.1.2,h1],h.1.2,h2⟩
 | [],_::_,h=>h.elim
 | _::_,[],h=>h.elim
theorem Ht (hf:Fr ρ w ρ' w') (hag:∀ k,(ρ k).real=true→ρ' k=ρ k):∀ {es:List (Value × V × Nat)} {l:List MapEntry},gO ρ X w es l→gO ρ' X w' es l
 | [],[],_=>trivial
 | a::r,e::l,h=>⟨⟨h.1.1,bT hf hag _ _ h.1.2⟩,Ht hf hag h.2⟩
 | [],_::_,h=>h.elim
 | _::_,[],h=>h.elim
theorem Mj:∀ {es:List (Value × V × Nat)} {l:List MapEntry},gO ρ X w es l→es.length=l.length
 | [],[],_=>rfl
 | a::r,e::l,h=>by simp [Mj h.2]
 | [],_::_,h=>h.elim
 | _::_,[],h=>h.elim
theorem vJ:∀ {es:List (Value × V × Nat)} {l:List MapEntry},gO ρ X w es l→∀ e∈l,∃ a∈es,(e.key=a.1∧e.born=a.2.2)∧aX ρ X w a.2.1 e.val
 | a::r,e::l,h,e',he=>by
  rcases yaD.1 he with rfl|he
  ·exact ⟨a,by simp,h.1⟩
  ·obtain ⟨b,hb,h'⟩:=vJ h.2 e' he
   exact ⟨b,by simp [hb],h'⟩
 | [],[],_,_,he=>by simp at he
 | [],_::_,h,_,_=>h.elim
 | _::_,[],h,_,_=>h.elim
theorem Hu:∀ {es:List (Value × V × Nat)} {l:List MapEntry},gO ρ X w es l→∀ a∈es,∃ e∈l,(e.key=a.1∧e.born=a.2.2)∧aX ρ X w a.2.1 e.val
 | a::r,e::l,h,a',he=>by
  rcases yaD.1 he with rfl|he
  ·exact ⟨e,by simp,h.1⟩
  ·obtain ⟨b,hb,h'⟩:=Hu h.2 a' he
   exact ⟨b,by simp [hb],h'⟩
 | [],[],_,_,he=>by simp at he
 | [],_::_,h,_,_=>h.elim
 | _::_,[],h,_,_=>h.elim
theorem Ec {x:V} {val:Value} (hx:aX ρ X w x val):∀ {es:List (Value × V × Nat)} {l:List MapEntry},gO ρ X w es l→∀ (key:Value) (j:Nat),gO ρ X w (es.modify j fun a=>(key,x,a.2.2)) (l.modify j fun e=>{ e with key:=key,val:=val })
 | [],[],_,_,_=>by simp [gO]
 | a::r,e::l,h,key,0=>⟨⟨⟨rfl,h.1.1.2⟩,hx⟩,h.2⟩
 | a::r,e::l,h,key,j+1=>⟨h.1,Ec hx h.2 key j⟩
 | [],_::_,h,_,_=>h.elim
 | _::_,[],h,_,_=>h.elim
theorem Ah {x:V} {val key:Value} {b:Nat} (hx:aX ρ X w x val):∀ {es:List (Value × V × Nat)} {l:List MapEntry},gO ρ X w es l→gO ρ X w (es++[(key,x,b)]) (l++[⟨key,val,b⟩])
 | [],[],_=>⟨⟨⟨rfl,rfl⟩,hx⟩,trivial⟩
 | a::r,e::l,h=>⟨h.1,Ah hx h.2⟩
 | [],_::_,h=>h.elim
 | _::_,[],h=>h.elim
theorem Ed:∀ {es:List (Value × V × Nat)} {l:List MapEntry},gO ρ X w es l→∀ (j:Nat),gO ρ X w (es.eraseIdx j) (l.eraseIdx j)
 | [],[],_,_=>by simp [gO]
 | a::r,e::l,h,0=>h.2
 | a::r,e::l,h,j+1=>⟨h.1,Ed h.2 j⟩
 | [],_::_,h,_=>h.elim
 | _::_,[],h,_=>h.elim
theorem Oh {d:TypeDesc} {a b:Value} (h:Instr.sameNow d a b=some true):a=b:=by
 unfold Instr.sameNow at h
 split at h
 ·split at h
  ·rename_i hk
   subst hk
   simpa using h
  ·cases h
 ·simpa [bytes_beq] using h
 ·simpa using h
 ·cases h
theorem tP {kd:TypeDesc} {key:Value}:∀ {es:List (Value × V × Nat)} {l:List MapEntry} {i:Nat} {r:Option (Nat × V)},gO ρ X w es l→dF kd key es i=some r →
  (r=none∧Instr.findNow kd key l i=some none)∨∃ j x val e,r=some (i+j,x)∧Instr.findNow kd key l i=some (some (i+j,val))∧aX ρ X w x val∧l[j]?=some e∧e.key=key
 | [],[],i,r,_,h=>by
  simp only [dF,yaa] at h
  exact .inl ⟨h.symm,rfl⟩
 | a::es,e::l,i,r,hr,h=>by
  simp only [dF] at h
  rw [←hr.1.1.1] at h
  cases hs:Instr.sameNow kd key e.key with
  | none=>rw [hs] at h;cases h
  | some b =>
   rw [hs] at h
   cases b with
   | true =>
    simp only [yaa] at h
    subst h
    exact .inr ⟨0,a.2.1,e.val,e,rfl,by simp [Instr.findNow,hs],hr.1.2,rfl,(Oh hs).symm⟩
   | false =>
    rcases tP hr.2 h with ⟨h1,h2⟩|⟨j,x,val,e',h1,h2,h3,h4,h5⟩
    ·exact .inl ⟨h1,by simp [Instr.findNow,hs,h2]⟩
    ·exact .inr ⟨j+1,x,val,e',by rw [h1];congr 2;omega,by simp [Instr.findNow,hs,h2];omega,h3,by simpa using h4,h5⟩
 | [],_::_,_,_,hr,_=>hr.elim
 | _::_,[],_,_,hr,_=>hr.elim
theorem gV {h:List Blk} (hr:Rep ρ X w h) {x:V} {val:Value} {K:Nat→List (Value × V × Nat)→Nat→Prop} (hx:aX ρ X w x val) (hk:iM h x K) :
  ∃ k es c arr,x=.mp k∧K k es c∧(ρ k).real=true∧(ρ k).off=0∧(ρ k).sz=0∧h[k]?=some (.map es c)∧val=.map (some (ρ k).blk)∧w.heap[(ρ k).blk]?=some (.map arr c)∧gO ρ X w es arr.toList:=by
 unfold iM at hk
 split at hk
 ·rename_i k
  unfold blk at hk
  rw [yam] at hk
  cases hb:h[k]? with
  | none=>simp [hb,Ms] at hk
  | some B =>
   rw [hb] at hk
   cases B with
   | map es c =>
    obtain ⟨⟨h1,h2,h3⟩,arr,h4,h5,h6⟩:=hr.blk k _ hb
    exact ⟨k,es,c,arr,rfl,hk,h1,h2,h3,hb,hx.2,h4,Qr h5 h6⟩
   | _=>exact hk.elim
 ·exact hk.elim
theorem Ra {h:List Blk} (hr:Rep ρ X w h) {k:Nat} (hk:aF h k) {o:Obj} {B:Blk} (hm:Made w w' o) (hB:∀ ρ',Fr ρ w ρ' w'→(∀ j,(ρ j).real=true→ρ' j=ρ j)→ρ' k=⟨true,w.heap.size,0,0,0,default⟩→bE ρ' X w' k B) :
  ∃ ρ',Fr ρ w ρ' w'∧(∀ j,(ρ j).real=true→ρ' j=ρ j)∧((∀ j,j≠k→ρ' j=ρ j)∧∀ j,(ρ j).real=true→w'.heap[(ρ j).blk]?=w.heap[(ρ j).blk]?)∧Rep ρ' X w' (h.set k B)∧ρ' k=⟨true,w.heap.size,0,0,0,default⟩:=by
 have hk':h[k]?=some .dead:=gL hk
 have hkr:(ρ k).real=false:=hr.blk k _ hk'
 have hf:Fr ρ w (upd ρ k ⟨true,w.heap.size,0,0,0,default⟩) w':=q9 hm (k:=k) rfl
 have hag:=rA hkr ⟨true,w.heap.size,0,0,0,default⟩
 exact ⟨upd ρ k ⟨true,w.heap.size,0,0,0,default⟩,hf,hag,⟨fun j hj=>aV _ _ hj,fun j hj=>hm.old (hr.lt j hj)⟩,vU hr hm hk' rfl (hB _ hf hag (upd_same _ _ _)),upd_same _ _ _⟩
theorem Jo {k:Nat} (hk:(ρ k).real=true) (o:Obj) (h1:w'.os=w.os) (h2:w'.tape=w.tape) (h3:w'.output=w.output) (h4:w'.heap=w.heap.setIfInBounds (ρ k).blk o):Fr ρ w ρ w' where
 os:=h1
 tape:=h2
 output:=h3
 size:=by rw [h4];simp
 keep b hb ho:=⟨by
  rw [h4,yaR]
  intro e
  exact ho ⟨k,hk,e⟩,ho⟩
theorem uN {h:List Blk} (hr:Rep ρ X w h) {k:Nat} (hk:(ρ k).real=true) {o:Obj} (h4:w'.heap=w.heap.setIfInBounds (ρ k).blk o) (j:Nat) (hj:j≠k) (hjr:(ρ j).real=true):w'.heap[(ρ j).blk]?=w.heap[(ρ j).blk]?:=by
 rw [h4,yaR]
 exact hr.inj k j (Ne.symm hj) hk hjr
theorem Dn {h:List Blk} (hr:Rep ρ X w h) {k:Nat} (hk:(ρ k).real=true) {o:Obj} (hf:Fr ρ w ρ w') (h4:w'.heap=w.heap.setIfInBounds (ρ k).blk o) {B:Blk} (hB:bE ρ X w' k B):Rep ρ X w' (h.set k B):=by
 refine ⟨hr.inj,fun j hj=>hr.out j (by simpa using hj),?_,hr.disj,fun j hj=>yat (hr.lt j hj) hf.size,hr.xfr hf⟩
 intro j B' hB'
 by_cases h1:j=k
 ·subst h1
  have hl:j<h.length:=by
   have:=(yao.1 hB').1
   simpa using this
  rw [yas hl] at hB'
  simp only [yaa] at hB'
  subst hB'
  exact hB
 ·rw [yap (Ne.symm h1)] at hB'
  exact gR hf (fun _ _=>rfl) rfl (fun hjr=>uN hr hk h4 j h1 hjr) (hr.blk j B' hB')
theorem Xm {h:List Blk} (hr:Rep ρ X w h) {x:V} {val:Value} {K:Nat→V→Nat→List Nat→Nat→Prop} (hx:aX ρ X w x val) (hk:itK h x K) :
  ∃ k m since seen last bm,x=.ptr k 0 0∧K k m since seen last∧(ρ k).real=true∧(ρ k).off=0∧(ρ k).sz=0∧val=.pointer (some ⟨(ρ k).blk,0,none⟩)∧w.heap[(ρ k).blk]?=some (.mapIter bm since seen.toArray last)∧aX ρ X w m (.map bm):=by
 unfold itK at hk
 split at hk
 ·rename_i k
  unfold blk at hk
  rw [yam] at hk
  cases hb:h[k]? with
  | none=>simp [hb,itB] at hk
  | some B =>
   rw [hb] at hk
   cases B with
   | it m since seen last =>
    obtain ⟨⟨h1,h2,h3⟩,bm,h4,h5⟩:=hr.blk k _ hb
    refine ⟨k,m,since,seen,last,bm,rfl,hk,h1,h2,h3,?_,h4,h5⟩
    have:=hx.2
    rw [h2,h3] at this
    simpa using this
   | _=>exact hk.elim
 ·exact hk.elim
theorem Fe {kd:TypeDesc} {x:V} {K:Value→Prop} (h:Ff kd x K):∃ key,x=.v key∧IsKey kd key∧K key:=by
 unfold Ff at h
 split at h
 ·exact ⟨_,rfl,Na h.1,h.2⟩
 ·exact h.elim
theorem Ow {t kt e:TypeId} {kd:TypeDesc} {z:Value} {ok:Bool} {inf:TypeInfo} {b c:Nat} {arr:Array MapEntry} {key:Value} {es:List (Value × V × Nat)} {K:V→Prop} (ht:P.underlying t=some (.map kt e)) (hkt:P.underlying kt=some kd)
  (hi:P.info? e=some inf) (hz:inf.zero=some z) (hkey:IsKey kd key) (hb:w.heap[b]?=some (.map arr c)) (hr:gO ρ X w es arr.toList) (h:eF (dF kd key es 0) z ok K) :
  ∃ x val,K x∧aX ρ X w x val∧(Instr.lookup t (.map (some b)) key ok).run P w=.ok val w:=by
 cases hm:dF kd key es 0 with
 | none=>rw [hm] at h;exact h.elim
 | some r =>
  rw [hm] at h
  rcases tP hr hm with ⟨rfl,h2⟩|⟨j,x,val,en,rfl,h2,h3,h4,h5⟩
  ·simp only [eF] at h
   cases ok with
   | true=>exact ⟨_,.tuple #[z,.bool false],h,⟨_,rfl,dM z,rfl,trivial⟩,by simp [Instr.lookup,run_underlying ht,MapKept.run_getObj_map hb,run_checkKey hkt hkey,run_findKey hkt h2,zeroValue,typeInfo,hi,hz]⟩
   | false=>exact ⟨_,z,h,dM z,by simp [Instr.lookup,run_underlying ht,MapKept.run_getObj_map hb,run_checkKey hkt hkey,run_findKey hkt h2,zeroValue,typeInfo,hi,hz]⟩
  ·simp only [eF] at h
   cases ok with
   | true=>exact ⟨_,.tuple #[val,.bool true],h,⟨_,rfl,h3,rfl,trivial⟩,by simp [Instr.lookup,run_underlying ht,MapKept.run_getObj_map hb,run_checkKey hkt hkey,run_findKey hkt h2]⟩
   | false=>exact ⟨_,val,h,h3,by simp [Instr.lookup,run_underlying ht,MapKept.run_getObj_map hb,run_checkKey hkt hkey,run_findKey hkt h2]⟩
theorem Ox {t kt e:TypeId} {kd:TypeDesc} {z:Value} {ok:Bool} {inf:TypeInfo} {key:Value} {K:V→Prop} (ht:P.underlying t=some (.map kt e)) (hkt:P.underlying kt=some kd)
  (hi:P.info? e=some inf) (hz:inf.zero=some z) (hkey:IsKey kd key) (h:eF (some none) z ok K) :
  ∃ x val,K x∧aX ρ X w x val∧(Instr.lookup t (.map none) key ok).run P w=.ok val w:=by
 have h2:Instr.findNow kd key [] 0=some none:=rfl
 simp only [eF] at h
 cases ok with
 | true=>exact ⟨_,.tuple #[z,.bool false],h,⟨_,rfl,dM z,rfl,trivial⟩,by simp [Instr.lookup,run_underlying ht,run_checkKey hkt hkey,run_findKey hkt h2,zeroValue,typeInfo,hi,hz]⟩
 | false=>exact ⟨_,z,h,dM z,by simp [Instr.lookup,run_underlying ht,run_checkKey hkt hkey,run_findKey hkt h2,zeroValue,typeInfo,hi,hz]⟩
theorem n9 {h:List Blk} (hr:Rep ρ X w h) {k:Nat} (hk:(ρ k).real=true) (ho:(ρ k).off=0) (hs:(ρ k).sz=0) {arr arr':Array MapEntry} {c c':Nat} {es':List (Value × V × Nat)} (hb:w.heap[(ρ k).blk]?=some (.map arr c)) (hm:gO ρ X w es' arr'.toList) :
  Fr ρ w ρ { w with heap:=w.heap.setIfInBounds (ρ k).blk (.map arr' c') }∧Rep ρ X { w with heap:=w.heap.setIfInBounds (ρ k).blk (.map arr' c') } (h.set k (.map es' c')) ∧
   ∀ j,j≠k→(ρ j).real=true→(w.heap.setIfInBounds (ρ k).blk (.map arr' c'))[(ρ j).blk]?=w.heap[(ρ j).blk]?:=by
 have hf:Fr ρ w ρ { w with heap:=w.heap.setIfInBounds (ρ k).blk (.map arr' c') }:=Jo hk (.map arr' c') rfl rfl rfl rfl
 refine ⟨hf,Dn hr hk hf rfl ?_,fun j hj hjr=>uN (w':={ w with heap:=w.heap.setIfInBounds (ρ k).blk (.map arr' c') }) hr hk rfl j hj hjr⟩
 obtain ⟨g1,g2⟩:=Qq (Ht hf (fun _ _=>rfl) hm)
 exact ⟨⟨hk,ho,hs⟩,arr',(heap_set hb).1,g1,g2⟩
theorem uB {l:List MapEntry} {arr:Array MapEntry} (h:arr.toList=l) (j:Nat) (f:MapEntry→MapEntry):(arr.modify j f).toList=l.modify j f:=by
 subst h
 apply List.ext_getElem?
 intro i
 simp [List.getElem?_modify,yaJ]
theorem Wx {t kt e:TypeId} {kd:TypeDesc} {h:List Blk} {k c:Nat} {arr:Array MapEntry} {key val:Value} {x:V} {es:List (Value × V × Nat)} {K:Blk→Prop} (hr:Rep ρ X w h) (ht:P.underlying t=some (.map kt e)) (hkt:P.underlying kt=some kd)
  (hkey:IsKey kd key) (hk:(ρ k).real=true) (ho:(ρ k).off=0) (hs:(ρ k).sz=0) (hb:w.heap[(ρ k).blk]?=some (.map arr c)) (hm:gO ρ X w es arr.toList) (hx:aX ρ X w x val) (hK:gZ (dF kd key es 0) key x es c K) :
  ∃ B w',K B∧B≠.dead∧Fr ρ w ρ w'∧Rep ρ X w' (h.set k B)∧(∀ j,j≠k→(ρ j).real=true→w'.heap[(ρ j).blk]?=w.heap[(ρ j).blk]?)∧(Instr.mapUpdate t (.map (some (ρ k).blk)) key val).run P w=.ok () w':=by
 cases hf:dF kd key es 0 with
 | none=>rw [hf] at hK;exact hK.elim
 | some r =>
  rw [hf] at hK
  rcases tP hm hf with ⟨rfl,h2⟩|⟨j,y,val',en,rfl,h2,h3,h4,h5⟩
  ·simp only [gZ] at hK
   obtain ⟨g1,g2,g3⟩:=n9 (arr':=arr.push ⟨key,val,c⟩) (c':=c+1) hr hk ho hs hb (by rw [Array.toList_push];exact Ah hx hm)
   exact ⟨_,_,hK,by simp,g1,g2,g3,by simp [Instr.mapUpdate,run_underlying ht,MapKept.run_getObj_map hb,run_checkKey hkt hkey,run_findKey hkt h2,MapKept.run_setObj_map _ hb]⟩
  ·simp only [gZ] at hK
   rw [yag] at hK h2
   obtain ⟨g1,g2,g3⟩:=n9 (arr':=arr.modify j fun e=>{ e with key:=key,val:=val }) (c':=c) hr hk ho hs hb (by rw [uB rfl];exact Ec hx hm key j)
   have hj:arr[j]?=some en:=by simpa using h4
   exact ⟨_,_,hK,by simp,g1,g2,g3,by simp [Instr.mapUpdate,run_underlying ht,MapKept.run_getObj_map hb,run_checkKey hkt hkey,run_findKey hkt h2,hj,h5,run_keyThatStays hkey,MapKept.run_setObj_map _ hb]⟩
theorem Jq {arr:Array MapEntry} (j:Nat) (hj:j<arr.size):(arr.eraseIdxIfInBounds j).toList=arr.toList.eraseIdx j:=by
 unfold Array.eraseIdxIfInBounds
 rw [dif_pos hj,Array.toList_eraseIdx]
theorem Wy {t kt e ty:TypeId} {kd:TypeDesc} {h:List Blk} {k c:Nat} {arr:Array MapEntry} {key:Value} {es:List (Value × V × Nat)} {K:Blk→Prop} {ts:List TypeId} (hr:Rep ρ X w h) (ht:P.underlying t=some (.map kt e)) (hkt:P.underlying kt=some kd)
  (hkey:IsKey kd key) (hk:(ρ k).real=true) (ho:(ρ k).off=0) (hs:(ρ k).sz=0) (hb:w.heap[(ρ k).blk]?=some (.map arr c)) (hm:gO ρ X w es arr.toList) (hK:Ic (dF kd key es 0) es c K) :
  ∃ B w',K B∧B≠.dead∧Fr ρ w ρ w'∧Rep ρ X w' (h.set k B)∧(∀ j,j≠k→(ρ j).real=true→w'.heap[(ρ j).blk]?=w.heap[(ρ j).blk]?)∧(Builtin.delete_ (t::ts).toArray ty #[.map (some (ρ k).blk),key]).run P w=.ok (.tuple #[]) w':=by
 cases hf:dF kd key es 0 with
 | none=>rw [hf] at hK;exact hK.elim
 | some r =>
  rw [hf] at hK
  rcases tP hm hf with ⟨rfl,h2⟩|⟨j,y,val',en,rfl,h2,h3,h4,h5⟩
  ·simp only [Ic] at hK
   obtain ⟨g1,g2,g3⟩:=n9 (arr':=arr) (c':=c) hr hk ho hs hb hm
   exact ⟨_,_,hK,by simp,g1,g2,g3,by simp [Builtin.delete_,run_underlying ht,MapKept.run_getObj_map hb,run_checkKey hkt hkey,run_findKey hkt h2,MapKept.run_setObj_map _ hb]⟩
  ·simp only [Ic] at hK
   rw [yag] at hK h2
   have hj:j<arr.size:=by simpa using (yao.1 h4).1
   obtain ⟨g1,g2,g3⟩:=n9 (arr':=arr.eraseIdxIfInBounds j) (c':=c) hr hk ho hs hb (by rw [Jq j hj];exact Ed hm j)
   exact ⟨_,_,hK,by simp,g1,g2,g3,by simp [Builtin.delete_,run_underlying ht,MapKept.run_getObj_map hb,run_checkKey hkt hkey,run_findKey hkt h2,MapKept.run_setObj_map _ hb]⟩
theorem Ws {h:List Blk} {k since last c bm:Nat} {ty:TypeId} {seen:List Nat} {es:List (Value × V × Nat)} {arr:Array MapEntry} {m:V} {D:Prop} {K:Value→V→Nat→Prop} (hr:Rep ρ X w h) (hk:(ρ k).real=true) (ho:(ρ k).off=0) (hs:(ρ k).sz=0)
  (hit:w.heap[(ρ k).blk]?=some (.mapIter (some bm) since seen.toArray last)) (hmv:aX ρ X w m (.map (some bm))) (hb:w.heap[bm]?=some (.map arr c)) (hm:gO ρ X w es arr.toList) (hK:Mo es since seen last D K) :
  (D∧(Instr.next (.pointer (some ⟨(ρ k).blk,0,none⟩)) false ty).run P w=.ok (.tuple #[.bool false]) w) ∨
  ∃ key x born w' val,K key x born∧Fr ρ w ρ w'∧Rep ρ X w' (h.set k (.it m since (seen++[born]) c))∧(∀ j,j≠k→(ρ j).real=true→w'.heap[(ρ j).blk]?=w.heap[(ρ j).blk]?)∧aX ρ X w' x val ∧
   (Instr.next (.pointer (some ⟨(ρ k).blk,0,none⟩)) false ty).run P w=.ok (.tuple #[.bool true,key,val]) w':=by
 obtain ⟨⟨h1,h2⟩,h3,h4⟩:=hK
 have hold:∀ x∈arr.toList,x.born<since:=by
  intro e he
  obtain ⟨a,ha,⟨_,g2⟩,_⟩:=vJ hm e he
  rw [g2]
  simpa using yaI.1 h1 a ha
 rcases run_next_at w ty (ρ k).blk bm since last seen.toArray arr c hit hb hold h2 with ⟨g1,g2⟩|⟨e,he,w1,hw1,g2⟩
 ·refine .inl ⟨h3 ?_,g2⟩
  rw [yaI]
  intro a ha
  obtain ⟨e,he,⟨_,g4⟩,_⟩:=Hu hm a ha
  have hemp:leftOf arr seen.toArray=#[]:=Array.eq_empty_of_size_eq_zero g1
  unfold leftOf at hemp
  rw [Array.filter_eq_empty_iff] at hemp
  have:=hemp e (by simpa using he)
  rw [g4] at this
  simpa using this
 ·obtain ⟨g3,g4⟩:=mem_left he
  obtain ⟨a,ha,⟨g5,g6⟩,g7⟩:=vJ hm e g3
  have hheap:(ChangeMaps.setBlock w1 (ρ k).blk (.mapIter (some bm) since (seen.toArray.push e.born) c)).heap=w.heap.setIfInBounds (ρ k).blk (.mapIter (some bm) since (seen.toArray.push e.born) c):=by
   rcases hw1 with rfl|rfl<;>rfl
  have hf:Fr ρ w ρ (ChangeMaps.setBlock w1 (ρ k).blk (.mapIter (some bm) since (seen.toArray.push e.born) c)):=by
   refine Jo hk _ ?_ ?_ ?_ hheap<;>(rcases hw1 with rfl|rfl<;>rfl)
  refine .inr ⟨a.1,a.2.1,a.2.2,_,e.val,h4 a ha ?_,hf,Dn hr hk hf hheap ?_,fun j hj hjr=>uN hr hk hheap j hj hjr,bT hf (fun _ _=>rfl) _ _ g7,by rw [g2,g5]⟩
  ·rw [←g6];simpa using g4
  ·refine ⟨⟨hk,ho,hs⟩,some bm,?_,bT hf (fun _ _=>rfl) _ _ hmv⟩
   rw [hheap,(heap_set hit).1,g6]
   simp
theorem Ng:∀ {es:List (Value × V × Nat)} {l:List MapEntry},gO ρ X w es l→∀ (st:Nat) {a:Value × V × Nat},es.find? (fun e=>e.2.2==st)=some a→∃ e,l.find? (·.born==st)=some e∧e.key=a.1∧aX ρ X w a.2.1 e.val
 | a::r,e::l,h,st,a',hf=>by
  simp only [List.find?_cons] at hf ⊢
  rw [h.1.1.2]
  split at hf
  ·simp only [yaa] at hf
   subst hf
   exact ⟨e,by rename_i hh;simp [hh],h.1.1.1,h.1.2⟩
  ·rename_i hh
   obtain ⟨e',h1,h2⟩:=Ng h.2 st hf
   exact ⟨e',by simp [hh,h1],h2⟩
 | [],[],_,_,_,hf=>by simp at hf
 | [],_::_,h,_,_,_=>h.elim
 | _::_,[],h,_,_,_=>h.elim
theorem Tn {b since last c bm:Nat} {seen:List Nat} {es:List (Value × V × Nat)} {arr:Array MapEntry} {K:V→Prop}
  (hit:w.heap[b]?=some (.mapIter (some bm) since seen.toArray last)) (hb:w.heap[bm]?=some (.map arr c)) (hm:gO ρ X w es arr.toList) (hlast:last=c) (hK:cW seen.getLast? fun st=>To (es.find? fun e=>e.2.2==st) K) :
  ∃ x val,K x∧aX ρ X w x val∧(Instr.entry (.pointer (some ⟨b,0,none⟩))).run P w=.ok val w:=by
 subst hlast
 cases hl:seen.getLast? with
 | none=>rw [hl] at hK;exact hK.elim
 | some st =>
  rw [hl] at hK
  simp only [cW] at hK
  cases hf:es.find? (fun e=>e.2.2==st) with
  | none=>rw [hf] at hK;exact hK.elim
  | some a =>
   rw [hf] at hK
   obtain ⟨e,h1,h2,h3⟩:=Ng hm st hf
   have h1':arr.find? (fun x=>x.born==st)=some e:=by rw [←Array.find?_toList];exact h1
   have hbk:seen.toArray.back?=some st:=by rw [←hl];simp
   refine ⟨_,.tuple #[e.key,e.val],hK,⟨_,rfl,h2,h3,trivial⟩,?_⟩
   simp only [Instr.entry,getObj,Sem.run_bind,Sem.run,hit,hb,Result.andThen,hbk,bne_self_eq_false,yay,if_false,h1']
   rfl
end
end Go.Fx
namespace Go.Fx
open Go.RowKit
section
variable {X:Nat→Prop}
theorem w7 (k sz:Nat) (els:List (List V)):∀ xs:List V,oH k sz els xs=xs.map (gK k sz els)
 | []=>rfl
 | x::r=>by simp [oH,w7 k sz els r]
theorem v8 (k sz:Nat) (els:List (List V)):∀ (e:Env) (i:Nat),get (pW k sz els e) i=gK k sz els (get e i)
 | [],_=>by simp [get,pW,gK]
 | (j,x)::r,i=>by
  simp only [get,pW]
  split
  ·rfl
  ·exact v8 k sz els r i
section
variable {ρ:Nat→Loc} {w:World} {h:List Blk} {k sz:Nat} {els:List (List V)}
def eB (ρ:Nat→Loc) (k j:Nat):Loc:=if j=k then { ρ k with real:=false } else ρ j
theorem Mx {b:Nat} (ho:Own (eB ρ k) b):Own ρ b:=by
 obtain ⟨j,h1,h2⟩:=ho
 unfold eB at h1 h2
 split at h1
 ·cases h1
 ·rename_i hj;rw [if_neg hj] at h2;exact ⟨j,h1,h2⟩
theorem o9:Fr ρ w (eB ρ k) w:=⟨rfl,rfl,rfl,yae _,fun _ _ ho=>⟨rfl,fun h=>ho (Mx h)⟩⟩
theorem oD:∀ b,Sta ρ X w b→Sta (eB ρ k) X w b∧w.heap[b]?=w.heap[b]?:=fun _ h=>⟨h.fr o9,rfl⟩
theorem eX {j:Nat} (hj:j≠k):eB ρ k j=ρ j:=by simp [eB,hj]
mutual
theorem tT (hr:Rep ρ X w h) (hb:h[k]?=some (.arr sz els)):∀ (x:V) (val:Value),aX ρ X w x val→aX (eB ρ k) X w (gK k sz els x) val
 | .any,_,_=>trivial
 | .v _,_,hx=>hx
 | .ro sz els,val,hx=>dN oD (.ro sz els) val hx
 | .bro sz els,val,hx=>by
  obtain ⟨a,len,cap,h1,h2,h3,h4,h5⟩:=hx
  refine ⟨a,len,cap,h1,h2,h3,h4,h5.imp id ?_⟩
  rintro ⟨b,off,h6,h7,h8⟩
  exact ⟨b,off,h6,h7.fr o9,aW oD sz b rfl off els h8⟩
 | .full sz els,val,hx=>by
  obtain ⟨a,len,h1,h2,h4,h5⟩:=hx
  refine ⟨a,len,h1,h2,h4,h5.imp id ?_⟩
  rintro ⟨b,off,h6,h7,h8⟩
  exact ⟨b,off,h6,h7.fr o9,aW oD sz b rfl off els h8⟩
 | .rp sz els i f,val,hx=>by
  obtain ⟨b,off,h6,h7,h8⟩:=hx
  exact ⟨b,off,h6,h7.fr o9,aW oD sz b rfl off els h8⟩
 | .sl j i n,val,hx=>by
  by_cases hj:j=k
  ·subst hj
   simp only [gK,if_true]
   by_cases hin:i+n≤els.length
   ·rw [if_pos hin]
    obtain ⟨⟨hsz,hpos⟩,hor⟩:=hr.blk j _ hb
    obtain ⟨cap,h4,h5,h6⟩:=hx
    have hlen:((els.drop i).take n).length=n:=by simp;omega
    rcases h6 with ⟨rfl,a,rfl⟩|⟨hreal,rfl,hroom⟩
    ·have hn:n=0:=by omega
     subst hn
     exact ⟨a,0,0,rfl,by simp,yae _,yah _,.inl (by simp)⟩
    ·rcases hor with ⟨g1,_⟩|⟨_,c,T,hh,hc,hrm,hels⟩
     ·rw [g1] at hreal;cases hreal
     ·refine ⟨_,n,cap,rfl,hlen.symm,h4,h5,.inr ⟨(ρ j).blk,(ρ j).off+i*(ρ j).sz,rfl,⟨hr.lt j hreal,?_,fun hx=>hr.disj _ ⟨j,hreal,rfl⟩ (.inl hx)⟩,?_⟩⟩
      ·rintro ⟨m,h1,h2⟩
       unfold eB at h1 h2
       split at h1
       ·cases h1
       ·rename_i hm;rw [if_neg hm] at h2;exact hr.inj m j hm h1 hreal h2
      ·rw [hsz];exact aW oD sz _ rfl _ _ (mB hels)
   ·rw [if_neg hin];trivial
  ·simp only [gK,hj,if_false]
   obtain ⟨cap,h1,h2,h3⟩:=hx
   refine ⟨cap,h1,h2,?_⟩
   rw [eX hj]
   exact h3
 | .ptr j i f,val,hx=>by
  by_cases hj:j=k
  ·simp only [gK,hj,if_true];trivial
  ·simp only [gK,hj,if_false,aX]
   rw [eX hj]
   exact hx
 | .mp j,val,hx=>by
  by_cases hj:j=k
  ·simp only [gK,hj,if_true];trivial
  ·simp only [gK,hj,if_false,aX]
   rw [eX hj]
   exact hx
 | .agg cs,val,hx=>by
  obtain ⟨arr,h1,h2⟩:=hx
  exact ⟨arr,h1,oG hr hb cs _ h2⟩
 | .tup cs,val,hx=>by
  obtain ⟨arr,h1,h2⟩:=hx
  exact ⟨arr,h1,oG hr hb cs _ h2⟩
 | .clo f cs,val,hx=>by
  obtain ⟨arr,h1,h2⟩:=hx
  exact ⟨arr,h1,oG hr hb cs _ h2⟩
 | .itr j,val,hx=>by
  by_cases hj:j=k
  ·simp only [gK,hj,if_true];trivial
  ·simp only [gK,hj,if_false,aX]
   rw [eX hj]
   exact hx
theorem oG (hr:Rep ρ X w h) (hb:h[k]?=some (.arr sz els)):∀ (xs:List V) (vs:List Value),bL ρ X w xs vs→bL (eB ρ k) X w (oH k sz els xs) vs
 | [],[],_=>trivial
 | x::r,u::us,hx=>⟨tT hr hb x u hx.1,oG hr hb r us hx.2⟩
 | [],_::_,hx=>hx.elim
 | _::_,[],hx=>hx.elim
end
theorem Ya (hr:Rep ρ X w h) (hb:h[k]?=some (.arr sz els)) {j:Nat} (hj:j≠k) {B:Blk} (hB:bE ρ X w j B):bE (eB ρ k) X w j (lI k sz els B):=by
 cases B with
 | dead=>simp only [bE,lI] at hB ⊢;rw [eX hj];exact hB
 | arr s es =>
  simp only [bE,lI] at hB ⊢
  rw [eX hj]
  refine ⟨hB.1,hB.2.imp id ?_⟩
  rintro ⟨h1,c,T,h2,h3,h4,h5⟩
  exact ⟨h1,c,T,h2,h3,h4,aW oD s _ rfl _ _ h5⟩
 | var cs =>
  simp only [bE,lI] at hB ⊢
  rw [eX hj]
  obtain ⟨h1,c,T,h2,h3⟩:=hB
  exact ⟨h1,c,T,h2,oG hr hb _ _ h3.1,h3.2⟩
 | arv s es =>
  simp only [bE,lI] at hB ⊢
  rw [eX hj]
  obtain ⟨h0,h1,c,T,h2,h3,h4,h5⟩:=hB
  refine ⟨h0,h1,c,T,h2,h3,by simpa using h4,fun i e he=>?_⟩
  simp only [yac,yab] at he
  obtain ⟨e0,he0,rfl⟩:=he
  refine ⟨by rw [w7,yaC];exact (h5 i e0 he0).1,fun f x hx=>?_⟩
  simp only [w7,yac,yab] at hx
  obtain ⟨x0,hx0,rfl⟩:=hx
  obtain ⟨u,h6,h7⟩:=(h5 i e0 he0).2 f x0 hx0
  exact ⟨u,h6,tT hr hb _ _ h7⟩
 | map es cl =>
  simp only [bE,lI] at hB ⊢
  rw [eX hj]
  obtain ⟨h1,arr,h2,h3,h4⟩:=hB
  refine ⟨h1,arr,h2,by rw [h3];simp,?_⟩
  rw [show (yaB (fun e:Value × V × Nat=>(e.1,gK k sz els e.2.1,e.2.2)) es).map (·.2.1)=oH k sz els (es.map (·.2.1)) by rw [w7];simp]
  exact oG hr hb _ _ h4
 | it m s sn l =>
  simp only [bE,lI] at hB ⊢
  rw [eX hj]
  obtain ⟨h1,x,h2,h3⟩:=hB
  exact ⟨h1,x,h2,tT hr hb _ _ h3⟩
 | rcd t e =>
  simp only [bE,lI] at hB ⊢
  rw [eX hj]
  exact ⟨hB.1,fun i=>by rw [v8];exact tT hr hb _ _ (hB.2 i)⟩
theorem Xy (hr:Rep ρ X w h) (hb:h[k]?=some (.arr sz els)):Rep (eB ρ k) X w ((h.map (lI k sz els)).set k .dead):=by
 have hkl:k<h.length:=(yao.1 hb).1
 refine ⟨?_,?_,?_,fun b ho=>hr.disj b (Mx ho),?_,hr.xlt⟩
 ·intro i j hij hi hj
  unfold eB at hi hj ⊢
  split at hi
  ·cases hi
  ·rename_i h1
   split at hj
   ·cases hj
   ·rename_i h2
    rw [if_neg h1,if_neg h2]
    exact hr.inj i j hij hi hj
 ·intro j hj
  simp at hj
  rw [eX (by omega)]
  exact hr.out j hj
 ·intro j B hB
  by_cases hj:j=k
  ·subst hj
   rw [yas (by simpa using hkl)] at hB
   simp only [yaa] at hB
   subst hB
   simp [bE,eB]
  ·rw [yap (Ne.symm hj),yac,yab] at hB
   obtain ⟨B0,hB0,rfl⟩:=hB
   exact Ya hr hb hj (hr.blk j B0 hB0)
 ·intro j hj
  unfold eB at hj ⊢
  split at hj
  ·cases hj
  ·rename_i h1;rw [if_neg h1];exact hr.lt j hj
theorem Mu {j:Nat} (hj:aC h j) (hne:j≠k):aC ((h.map (lI k sz els)).set k .dead) j:=by
 unfold aC at hj ⊢
 rw [yap (Ne.symm hne),yac]
 cases hb:h[j]? with
 | none=>rw [hb] at hj;exact hj.elim
 | some B=>rw [hb] at hj;cases B<;>first|exact hj.elim|trivial
end
theorem Yb {fx:List Nat} {k:Nat} {s:St} {K:St→Prop} (h:Kr fx k (blk s.h k) s K):K s∨∃ sz els,s.h[k]?=some (.arr sz els)∧k∉fx∧K { s with e:=pW k sz els s.e,h:=(s.h.map (lI k sz els)).set k .dead }:=by
 unfold Kr at h
 split at h
 ·rename_i sz els hb
  refine .inr ⟨sz,els,?_,h⟩
  unfold blk at hb
  rw [yam] at hb
  cases hk:s.h[k]? with
  | none=>simp [hk] at hb
  | some B=>rw [hk] at hb;simpa using hb
 ·exact .inl h
theorem w5 {w:World} {t:Array Value} {fx:List Nat} {K:St→Prop}:∀ (xs:List Nat) (s:St) (ρ:Nat→Loc),pV fx xs s K→Rep ρ X w s.h→cS ρ X w s.e t→(∀ k∈fx,aC s.h k→True) →
  ∃ s' ρ',K s'∧s'.b=s.b∧Fr ρ w ρ' w∧(∀ k∈fx,ρ' k=ρ k)∧(∀ k∈fx,aC s.h k→aC s'.h k)∧Rep ρ' X w s'.h∧cS ρ' X w s'.e t
 | [],s,ρ,h,hr,he,_=>⟨s,ρ,h,rfl,Fr.refl _ _,fun _ _=>rfl,fun _ _ h=>h,hr,he⟩
 | x::r,s,ρ,h,hr,he,ht=>by
  simp only [pV] at h
  split at h
  ·rename_i k i n hx
   rcases Yb h with h|⟨sz,els,hb,hk,h⟩
   ·exact w5 r s ρ h hr he ht
   ·have hne:∀ j∈fx,j≠k:=fun j hj e=>hk (e▸hj)
    obtain ⟨s',ρ',h1,h0,h2,h3,h4,h5,h6⟩:=w5 r _ (eB ρ k) h (Xy hr hb) (fun i=>by rw [v8];exact tT hr hb _ _ (he i)) (fun _ _ _=>trivial)
    exact ⟨s',ρ',h1,h0,o9.trans h2,fun j hj=>(h3 j hj).trans (eX (hne j hj)),fun j hj hl=>h4 j hj (Mu hl (hne j hj)),h5,h6⟩
  ·exact w5 r s ρ h hr he ht
section
variable {ρ:Nat→Loc} {w:World} {h:List Blk} {M:Nat→Bool}
theorem acL {h:List Blk} {k sz:Nat} {els:List (List V)} (hb:blk h k=.arr sz els):h[k]?=some (.arr sz els):=by
 unfold blk at hb
 rw [yam] at hb
 cases hk:h[k]? with
 | none=>simp [hk] at hb
 | some B=>rw [hk] at hb;simpa using hb
def dW (ρ:Nat→Loc) (M:Nat→Bool) (j:Nat):Loc:=if M j then { ρ j with real:=false } else ρ j
theorem Ph {b:Nat} (ho:Own (dW ρ M) b):Own ρ b:=by
 obtain ⟨j,h1,h2⟩:=ho
 unfold dW at h1 h2
 split at h1
 ·cases h1
 ·rename_i hj;rw [if_neg hj] at h2;exact ⟨j,h1,h2⟩
theorem Bp:Fr ρ w (dW ρ M) w:=⟨rfl,rfl,rfl,yae _,fun _ _ ho=>⟨rfl,fun h=>ho (Ph h)⟩⟩
theorem Aq:∀ b,Sta ρ X w b→Sta (dW ρ M) X w b∧w.heap[b]?=w.heap[b]?:=fun _ h=>⟨h.fr Bp,rfl⟩
theorem pR {j:Nat} (hj:¬M j=true):dW ρ M j=ρ j:=by simp [dW,hj]
theorem Cz (M:Nat→Bool) (h:List Blk):∀ xs:List V,gvL M h xs=xs.map (gvV M h)
 | []=>rfl
 | x::r=>by simp [gvL,Cz M h r]
theorem Ko (M:Nat→Bool) (h:List Blk):∀ (e:Env) (i:Nat),get (gvE M h e) i=gvV M h (get e i)
 | [],_=>by simp [get,gvE,gvV]
 | (j,x)::r,i=>by
  simp only [get,gvE]
  split
  ·rfl
  ·exact Ko M h r i
theorem Rq (M:Nat→Bool) (h:List Blk):∀ (l:List Blk) (k:Nat),(gvH M h k l).length=l.length
 | [],_=>rfl
 | b::r,k=>by simp [gvH,Rq M h r]
theorem Km (M:Nat→Bool) (h:List Blk):∀ (l:List Blk) (k j:Nat),(gvH M h k l)[j]?=(l[j]?).map fun b=>if M (k+j) then .dead else gvB M h b
 | [],_,_=>by simp [gvH]
 | b::r,k,0=>by simp [gvH]
 | b::r,k,j+1=>by
  simp only [gvH,List.getElem?_cons_succ]
  rw [Km M h r (k+1) j,show k+1+j=k+(j+1) by omega]
mutual
theorem Ar (hr:Rep ρ X w h):∀ (x:V) (val:Value),aX ρ X w x val→aX (dW ρ M) X w (gvV M h x) val
 | .any,_,_=>trivial
 | .v _,_,hx=>hx
 | .ro sz els,val,hx=>dN Aq (.ro sz els) val hx
 | .bro sz els,val,hx=>by
  obtain ⟨a,len,cap,h1,h2,h3,h4,h5⟩:=hx
  refine ⟨a,len,cap,h1,h2,h3,h4,h5.imp id ?_⟩
  rintro ⟨b,off,h6,h7,h8⟩
  exact ⟨b,off,h6,h7.fr Bp,aW Aq sz b rfl off els h8⟩
 | .full sz els,val,hx=>by
  obtain ⟨a,len,h1,h2,h4,h5⟩:=hx
  refine ⟨a,len,h1,h2,h4,h5.imp id ?_⟩
  rintro ⟨b,off,h6,h7,h8⟩
  exact ⟨b,off,h6,h7.fr Bp,aW Aq sz b rfl off els h8⟩
 | .rp sz els i f,val,hx=>by
  obtain ⟨b,off,h6,h7,h8⟩:=hx
  exact ⟨b,off,h6,h7.fr Bp,aW Aq sz b rfl off els h8⟩
 | .sl j i n,val,hx=>by
  by_cases hj:M j=true
  ·simp only [gvV,hj,if_true]
   split
   ·rename_i sz els hb
    have hb:=acL hb
    by_cases hin:i+n≤els.length
    ·rw [if_pos hin]
     obtain ⟨⟨hsz,hpos⟩,hor⟩:=hr.blk j _ hb
     obtain ⟨cap,h4,h5,h6⟩:=hx
     have hlen:((els.drop i).take n).length=n:=by simp;omega
     rcases h6 with ⟨rfl,a,rfl⟩|⟨hreal,rfl,hroom⟩
     ·have hn:n=0:=by omega
      subst hn
      exact ⟨a,0,0,rfl,by simp,yae _,yah _,.inl (by simp)⟩
     ·rcases hor with ⟨g1,_⟩|⟨_,c,T,hh,hc,hrm,hels⟩
      ·rw [g1] at hreal;cases hreal
      ·refine ⟨_,n,cap,rfl,hlen.symm,h4,h5,.inr ⟨(ρ j).blk,(ρ j).off+i*(ρ j).sz,rfl,⟨hr.lt j hreal,?_,fun hx=>hr.disj _ ⟨j,hreal,rfl⟩ (.inl hx)⟩,?_⟩⟩
       ·rintro ⟨m,h1,h2⟩
        unfold dW at h1 h2
        split at h1
        ·cases h1
        ·rename_i hm;rw [if_neg hm] at h2;exact hr.inj m j (fun e=>hm (e▸hj)) h1 hreal h2
       ·rw [hsz];exact aW Aq sz _ rfl _ _ (mB hels)
    ·rw [if_neg hin];trivial
   ·trivial
  ·simp only [gvV,hj]
   obtain ⟨cap,h1,h2,h3⟩:=hx
   refine ⟨cap,h1,h2,?_⟩
   rw [pR hj]
   exact h3
 | .ptr j i f,val,hx=>by
  by_cases hj:M j=true
  ·simp only [gvV,hj,if_true];trivial
  ·simp only [gvV,hj]
   show (dW ρ M j).real=true∧val=.pointer (some ⟨(dW ρ M j).blk,(dW ρ M j).off+i*(dW ρ M j).sz+f,none⟩)
   rw [pR hj]
   exact hx
 | .mp j,val,hx=>by
  by_cases hj:M j=true
  ·simp only [gvV,hj,if_true];trivial
  ·simp only [gvV,hj]
   show (dW ρ M j).real=true∧val=.map (some (dW ρ M j).blk)
   rw [pR hj]
   exact hx
 | .agg cs,val,hx=>by
  obtain ⟨arr,h1,h2⟩:=hx
  exact ⟨arr,h1,pC hr cs _ h2⟩
 | .tup cs,val,hx=>by
  obtain ⟨arr,h1,h2⟩:=hx
  exact ⟨arr,h1,pC hr cs _ h2⟩
 | .clo f cs,val,hx=>by
  obtain ⟨arr,h1,h2⟩:=hx
  exact ⟨arr,h1,pC hr cs _ h2⟩
 | .itr j,val,hx=>by
  by_cases hj:M j=true
  ·simp only [gvV,hj,if_true];trivial
  ·simp only [gvV,hj]
   show (dW ρ M j).real=true∧val=.func (.yield (dW ρ M j).blk) #[] #[]
   rw [pR hj]
   exact hx
theorem pC (hr:Rep ρ X w h):∀ (xs:List V) (vs:List Value),bL ρ X w xs vs→bL (dW ρ M) X w (gvL M h xs) vs
 | [],[],_=>trivial
 | x::r,u::us,hx=>⟨Ar hr x u hx.1,pC hr r us hx.2⟩
 | [],_::_,hx=>hx.elim
 | _::_,[],hx=>hx.elim
end
theorem abP (hr:Rep ρ X w h) {j:Nat} (hj:¬M j=true) {B:Blk} (hB:bE ρ X w j B):bE (dW ρ M) X w j (gvB M h B):=by
 cases B with
 | dead=>simp only [bE,gvB] at hB ⊢;rw [pR hj];exact hB
 | arr s es =>
  simp only [bE,gvB] at hB ⊢
  rw [pR hj]
  refine ⟨hB.1,hB.2.imp id ?_⟩
  rintro ⟨h1,c,T,h2,h3,h4,h5⟩
  exact ⟨h1,c,T,h2,h3,h4,aW Aq s _ rfl _ _ h5⟩
 | var cs =>
  simp only [bE,gvB] at hB ⊢
  rw [pR hj]
  obtain ⟨h1,c,T,h2,h3⟩:=hB
  exact ⟨h1,c,T,h2,pC hr _ _ h3.1,h3.2⟩
 | arv s es =>
  simp only [bE,gvB] at hB ⊢
  rw [pR hj]
  obtain ⟨h0,h1,c,T,h2,h3,h4,h5⟩:=hB
  refine ⟨h0,h1,c,T,h2,h3,by simpa using h4,fun i e he=>?_⟩
  simp only [yac,yab] at he
  obtain ⟨e0,he0,rfl⟩:=he
  refine ⟨by rw [Cz,yaC];exact (h5 i e0 he0).1,fun f x hx=>?_⟩
  simp only [Cz,yac,yab] at hx
  obtain ⟨x0,hx0,rfl⟩:=hx
  obtain ⟨u,h6,h7⟩:=(h5 i e0 he0).2 f x0 hx0
  exact ⟨u,h6,Ar hr _ _ h7⟩
 | map es cl =>
  simp only [bE,gvB] at hB ⊢
  rw [pR hj]
  obtain ⟨h1,arr,h2,h3,h4⟩:=hB
  refine ⟨h1,arr,h2,by rw [h3];simp,?_⟩
  rw [show (yaB (fun e:Value × V × Nat=>(e.1,gvV M h e.2.1,e.2.2)) es).map (·.2.1)=gvL M h (es.map (·.2.1)) by rw [Cz];simp]
  exact pC hr _ _ h4
 | it m s sn l =>
  simp only [bE,gvB] at hB ⊢
  rw [pR hj]
  obtain ⟨h1,x,h2,h3⟩:=hB
  exact ⟨h1,x,h2,Ar hr _ _ h3⟩
 | rcd t e =>
  simp only [bE,gvB] at hB ⊢
  rw [pR hj]
  exact ⟨hB.1,fun i=>by rw [Ko];exact Ar hr _ _ (hB.2 i)⟩
theorem abR (hr:Rep ρ X w h):Rep (dW ρ M) X w (gvH M h 0 h):=by
 refine ⟨?_,?_,?_,fun b ho=>hr.disj b (Ph ho),?_,hr.xlt⟩
 ·intro i j hij hi hj
  unfold dW at hi hj ⊢
  split at hi
  ·cases hi
  ·rename_i h1
   split at hj
   ·cases hj
   ·rename_i h2
    rw [if_neg h1,if_neg h2]
    exact hr.inj i j hij hi hj
 ·intro j hj
  rw [Rq] at hj
  have:=hr.out j hj
  unfold dW
  split
  ·rfl
  ·exact this
 ·intro j B hB
  rw [Km,yab] at hB
  obtain ⟨B0,hB0,rfl⟩:=hB
  rw [yag]
  by_cases hj:M j=true
  ·rw [if_pos hj]
   simp [bE,dW,hj]
  ·rw [if_neg hj]
   exact abP hr hj (hr.blk j B0 hB0)
 ·intro j hj
  unfold dW at hj ⊢
  split at hj
  ·cases hj
  ·rename_i h1;rw [if_neg h1];exact hr.lt j hj
theorem Tk {j:Nat} (hj:aC h j) (hne:M j=false):aC (gvH M h 0 h) j:=by
 unfold aC at hj ⊢
 rw [Km,yag]
 cases hb:h[j]? with
 | none=>rw [hb] at hj;exact hj.elim
 | some B=>rw [hb] at hj;rw [yax,hne];cases B<;>first|exact hj.elim|trivial
end
section
variable {ρ:Nat→Loc} {w:World} {h:List Blk} {i j:Nat}
def eE (ρ:Nat→Loc) (i j k:Nat):Loc:=if k=i then ρ j else if k=j then { ρ j with real:=false } else ρ k
theorem Wv (hi:(ρ i).real=false) {b:Nat}:Own (eE ρ i j) b→Own ρ b:=by
 rintro ⟨k,h1,h2⟩
 unfold eE at h1 h2
 split at h1
 ·rename_i hk;rw [if_pos hk] at h2;exact ⟨j,h1,h2⟩
 ·split at h1
  ·cases h1
  ·rename_i h3 h4;rw [if_neg h3,if_neg h4] at h2;exact ⟨k,h1,h2⟩
theorem Hy (hi:(ρ i).real=false):Fr ρ w (eE ρ i j) w:=⟨rfl,rfl,rfl,yae _,fun _ _ ho=>⟨rfl,fun h=>ho (Wv hi h)⟩⟩
theorem Er (hi:(ρ i).real=false):∀ b,Sta ρ X w b→Sta (eE ρ i j) X w b∧w.heap[b]?=w.heap[b]?:=fun _ h=>⟨h.fr (Hy hi),rfl⟩
theorem Rb (hi:(ρ i).real=false) {k:Nat} (hk:(ρ k).real=true):eE ρ i j (if k=j then i else k)=ρ k:=by
 unfold eE
 by_cases hkj:k=j
 ·rw [if_pos hkj,if_pos rfl,hkj]
 ·rw [if_neg hkj,if_neg hkj,if_neg]
  intro hki;rw [hki,hi] at hk;cases hk
theorem Cw (i j:Nat):∀ xs:List V,mvL i j xs=xs.map (mvV i j)
 | []=>rfl
 | x::r=>by simp [mvL,Cw i j r]
theorem Kn (i j:Nat):∀ (e:Env) (t:Nat),get (mvE i j e) t=mvV i j (get e t)
 | [],_=>by simp [get,mvE,mvV]
 | (q,x)::r,t=>by
  simp only [get,mvE]
  split
  ·rfl
  ·exact Kn i j r t
mutual
theorem Es (hi:(ρ i).real=false):∀ (x:V) (val:Value),aX ρ X w x val→aX (eE ρ i j) X w (mvV i j x) val
 | .any,_,_=>trivial
 | .v _,_,hx=>hx
 | .ro sz els,val,hx=>dN (Er hi) (.ro sz els) val hx
 | .bro sz els,val,hx=>by
  obtain ⟨a,len,cap,h1,h2,h3,h4,h5⟩:=hx
  refine ⟨a,len,cap,h1,h2,h3,h4,h5.imp id ?_⟩
  rintro ⟨b,off,h6,h7,h8⟩
  exact ⟨b,off,h6,h7.fr (Hy hi),aW (Er hi) sz b rfl off els h8⟩
 | .full sz els,val,hx=>by
  obtain ⟨a,len,h1,h2,h4,h5⟩:=hx
  refine ⟨a,len,h1,h2,h4,h5.imp id ?_⟩
  rintro ⟨b,off,h6,h7,h8⟩
  exact ⟨b,off,h6,h7.fr (Hy hi),aW (Er hi) sz b rfl off els h8⟩
 | .rp sz els q f,val,hx=>by
  obtain ⟨b,off,h6,h7,h8⟩:=hx
  exact ⟨b,off,h6,h7.fr (Hy hi),aW (Er hi) sz b rfl off els h8⟩
 | .sl k q n,val,hx=>by
  obtain ⟨cap,h1,h2,h3⟩:=hx
  refine ⟨cap,h1,h2,h3.imp id ?_⟩
  rintro ⟨h4,h5,h6⟩
  rw [Rb hi h4]
  exact ⟨h4,h5,h6⟩
 | .ptr k q f,val,hx=>by
  obtain ⟨h4,h5⟩:=hx
  show (eE ρ i j _).real=true∧val=.pointer (some ⟨(eE ρ i j _).blk,(eE ρ i j _).off+q*(eE ρ i j _).sz+f,none⟩)
  rw [Rb hi h4]
  exact ⟨h4,h5⟩
 | .mp k,val,hx=>by
  obtain ⟨h4,h5⟩:=hx
  show (eE ρ i j _).real=true∧val=.map (some (eE ρ i j _).blk)
  rw [Rb hi h4]
  exact ⟨h4,h5⟩
 | .agg cs,val,hx=>by
  obtain ⟨arr,h1,h2⟩:=hx
  exact ⟨arr,h1,tO hi cs _ h2⟩
 | .tup cs,val,hx=>by
  obtain ⟨arr,h1,h2⟩:=hx
  exact ⟨arr,h1,tO hi cs _ h2⟩
 | .clo f cs,val,hx=>by
  obtain ⟨arr,h1,h2⟩:=hx
  exact ⟨arr,h1,tO hi cs _ h2⟩
 | .itr k,val,hx=>by
  obtain ⟨h4,h5⟩:=hx
  show (eE ρ i j _).real=true∧val=.func (.yield (eE ρ i j _).blk) #[] #[]
  rw [Rb hi h4]
  exact ⟨h4,h5⟩
theorem tO (hi:(ρ i).real=false):∀ (xs:List V) (vs:List Value),bL ρ X w xs vs→bL (eE ρ i j) X w (mvL i j xs) vs
 | [],[],_=>trivial
 | x::r,u::us,hx=>⟨Es hi x u hx.1,tO hi r us hx.2⟩
 | [],_::_,hx=>hx.elim
 | _::_,[],hx=>hx.elim
end
theorem Rc (hi:(ρ i).real=false) {k k':Nat} (hk:eE ρ i j k'=ρ k) {B:Blk} (hB:bE ρ X w k B):bE (eE ρ i j) X w k' (mvB i j B):=by
 cases B with
 | dead=>simp only [bE,mvB] at hB ⊢;rw [hk];exact hB
 | arr s es =>
  simp only [bE,mvB] at hB ⊢
  rw [hk]
  refine ⟨hB.1,hB.2.imp id ?_⟩
  rintro ⟨h1,c,T,h2,h3,h4,h5⟩
  exact ⟨h1,c,T,h2,h3,h4,aW (Er hi) s _ rfl _ _ h5⟩
 | var cs =>
  simp only [bE,mvB] at hB ⊢
  rw [hk]
  obtain ⟨h1,c,T,h2,h3⟩:=hB
  exact ⟨h1,c,T,h2,tO hi _ _ h3.1,h3.2⟩
 | arv s es =>
  simp only [bE,mvB] at hB ⊢
  rw [hk]
  obtain ⟨h0,h1,c,T,h2,h3,h4,h5⟩:=hB
  refine ⟨h0,h1,c,T,h2,h3,by simpa using h4,fun q e he=>?_⟩
  simp only [yac,yab] at he
  obtain ⟨e0,he0,rfl⟩:=he
  refine ⟨by rw [Cw,yaC];exact (h5 q e0 he0).1,fun f x hx=>?_⟩
  simp only [Cw,yac,yab] at hx
  obtain ⟨x0,hx0,rfl⟩:=hx
  obtain ⟨u,h6,h7⟩:=(h5 q e0 he0).2 f x0 hx0
  exact ⟨u,h6,Es hi _ _ h7⟩
 | map es cl =>
  simp only [bE,mvB] at hB ⊢
  rw [hk]
  obtain ⟨h1,arr,h2,h3,h4⟩:=hB
  refine ⟨h1,arr,h2,by rw [h3];simp,?_⟩
  rw [show (yaB (fun e:Value × V × Nat=>(e.1,mvV i j e.2.1,e.2.2)) es).map (·.2.1)=mvL i j (es.map (·.2.1)) by rw [Cw];simp]
  exact tO hi _ _ h4
 | it m s sn l =>
  simp only [bE,mvB] at hB ⊢
  rw [hk]
  obtain ⟨h1,x,h2,h3⟩:=hB
  exact ⟨h1,x,h2,Es hi _ _ h3⟩
 | rcd t e =>
  simp only [bE,mvB] at hB ⊢
  rw [hk]
  exact ⟨hB.1,fun i=>by rw [Kn];exact Es hi _ _ (hB.2 i)⟩
theorem alU (hr:Rep ρ X w h) {B:Blk} (hij:i≠j) (hi:h[i]?=some .dead) (hj:h[j]?=some B):Rep (eE ρ i j) X w (((h.map (mvB i j)).set i (mvB i j B)).set j .dead):=by
 have hid:(ρ i).real=false:=by simpa [bE] using hr.blk i _ hi
 have hil:i<h.length:=(yao.1 hi).1
 have hjl:j<h.length:=(yao.1 hj).1
 refine ⟨?_,?_,?_,fun b ho=>hr.disj b (Wv hid ho),?_,hr.xlt⟩
 ·intro a b hab ha hb
  unfold eE at ha hb ⊢
  by_cases a1:a=i
  ·rw [if_pos a1] at ha ⊢
   by_cases b1:b=i
   ·exact absurd (a1.trans b1.symm) hab
   ·rw [if_neg b1] at hb ⊢
    by_cases b2:b=j
    ·rw [if_pos b2] at hb;cases hb
    ·rw [if_neg b2] at hb ⊢
     exact hr.inj j b (fun e=>b2 e.symm) ha hb
  ·rw [if_neg a1] at ha ⊢
   by_cases a2:a=j
   ·rw [if_pos a2] at ha;cases ha
   ·rw [if_neg a2] at ha ⊢
    by_cases b1:b=i
    ·rw [if_pos b1] at hb ⊢
     exact hr.inj a j a2 ha hb
    ·rw [if_neg b1] at hb ⊢
     by_cases b2:b=j
     ·rw [if_pos b2] at hb;cases hb
     ·rw [if_neg b2] at hb ⊢
      exact hr.inj a b hab ha hb
 ·intro k hk
  simp only [List.length_set,yaC] at hk
  unfold eE
  rw [if_neg (by omega),if_neg (by omega)]
  exact hr.out k hk
 ·intro k C hC
  by_cases hkj:j=k
  ·subst hkj
   rw [yas (by simpa using hjl)] at hC
   simp only [yaa] at hC
   subst hC
   simp only [bE,eE]
   rw [if_neg (fun e=>hij e.symm)]
   simp
  ·rw [yap hkj] at hC
   by_cases hki:i=k
   ·subst hki
    rw [yas (by simpa using hil)] at hC
    simp only [yaa] at hC
    subst hC
    exact Rc hid (by simp [eE]) (hr.blk j B hj)
   ·rw [yap hki,yac,yab] at hC
    obtain ⟨C0,hC0,rfl⟩:=hC
    refine Rc hid ?_ (hr.blk k C0 hC0)
    unfold eE
    rw [if_neg (fun e=>hki e.symm),if_neg (fun e=>hkj e.symm)]
 ·intro k hk
  unfold eE at hk ⊢
  split at hk
  ·rename_i h1;rw [if_pos h1];exact hr.lt j hk
  ·split at hk
   ·cases hk
   ·rename_i h1 h2;rw [if_neg h1,if_neg h2];exact hr.lt k hk
end
end
end Go.Fx
