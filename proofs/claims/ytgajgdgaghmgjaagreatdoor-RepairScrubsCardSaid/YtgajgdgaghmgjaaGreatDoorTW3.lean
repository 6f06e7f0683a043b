import Derived.Test.YtgajgdgaghmgjaaGreatDoorKCode
import Derived.Test.YtgajgdgaghmgjaaGreatDoorTE5
import Derived.Test.YtgajgdgaghmgjaaGreatDoorQLow
import Derived.Shelf.Small.Bits
import Derived.Ground.Names2Prog
import Derived.Shelf.SlGeneric
import Derived.Shelf.SlLaysF0
import Derived.Ground.NamesProg
import Derived.Ground.SlsfProg
import Derived.Test.YtgajgdgaghmgjaaGreatDoorProg
import Derived.Lib.AppendZerosOnto
import Derived.Lib.SliceRun
import Derived.Lib.Walk
import Derived.Test.YtgajgdgaghmgjaaGreatDoorTO6
import Derived.Shelf.Lay
import Derived.Shelf.LaySoft
import Derived.Shelf.Strings.Builder1
import Derived.Shelf.Strings.BuilderF
import Derived.Shelf.Strings.BuilderK
import Derived.WalkKit
import Derived.BigCall
import Derived.Deep.RegionHeld3
import Derived.Shelf.Strings.MapGrows
import Derived.Test.YtgajgdgaghmgjaaGreatDoorQCode
import Derived.Test.YtgajgdgaghmgjaaGreatDoorFxUse
set_option linter.unusedVariables false
set_option linter.unusedSimpArgs false
set_option linter.unusedSectionVars false
open Int renaming zero_add → yaa, reduceAdd → yab, cast_ofNat_Int → yaf, reduceLT → yah, reduceLE → yai, reduceSub → yak, reduceNeg → yam, toNat_zero → yao, reduceToNat → yap, toNat_one → yar, sub_zero → yat, reduceMul → yav, reduceBEq → yax, min_def → yaz, reduceEq → yaB, reduceBNe → yaD, reduceMod → yaE, reduceDiv → yaF, max_def → yaG, toNat_natCast → yaH, reduceTDiv → yaI, reduceNe → yaO
open Bool renaming true_and → yac
open List renaming getElem?_cons_succ → yad, take_succ_cons → yae, set_cons_succ → yag, drop_succ_cons → yaj, getElem_cons_zero → yaq, getElem_cons_succ → yau, getElem?_nil → yay, range'_succ → yaJ, range'_zero → yaK, getElem_map → yaN, reduceReplicate → yaP, take_of_length_le → yaS, length_map → yaT, getElem?_append_right → yaU, toArray → yaW, drop_of_length_le → yaX, getElem?_cons_zero → yaY, getElem?_toArray → ybb, isEmpty_eq_false_iff → ybc
open Nat renaming reduceSub → yal, reducePow → yan, sub_zero → yas, reduceMul → yaw, le_refl → yaC, mul_one → yaL, not_lt_zero → yaM, le_of_lt → yaQ, zero_le → yaR, lt_of_lt_of_le → yaV
open Array renaming toList_replicate → yaA, getElem?_append_left → yaZ, getElem?_modify → yba
namespace Go.Fx
open Go
def cl (ks:List Nat) (s:St):St:=⟨ks.map fun k=>(k,get s.e k),s.h,s.b⟩
def itF (fx ks:List Nat) (f:(St→Prop)→St→Prop) (k:Nat) (s:St):Prop:=f (fun s'=>leS fx s' (cl ks s')∧∃ j,∃ _:j<k,itF fx ks f j (cl ks s')) s
termination_by k
def nxP (fx ks:List Nat) (f:(St→Prop)→St→Prop) (k:Nat) (s:St):Prop:=leS fx s (cl ks s)∧∃ j,∃ _:j<k,itF fx ks f j (cl ks s)
section
variable {fx ks:List Nat} {f:(St→Prop)→St→Prop} {k:Nat} {s s':St} {e:Env} {h:List Blk} {b:Nat}
theorem Xl:itF fx ks f k s=f (nxP fx ks f k) s:=by
 rw [itF];rfl
theorem fG (hl:leS fx ⟨e,h,b⟩ ⟨ks.map fun k=>(k,get e k),h,b⟩) (hf:f (nxP fx ks f k) ⟨ks.map fun k=>(k,get e k),h,b⟩):nxP fx ks f (k+1) ⟨e,h,b⟩:=⟨hl,k,Nat.lt_succ_self k,Xl.mpr hf⟩
@[congr] theorem asR (q:s=s'):nxP fx ks f k s=nxP fx ks f k s':=by rw [q]
theorem bY (ks:List Nat) (k:Nat) (hl:leS fx ⟨e,h,b⟩ ⟨ks.map fun k=>(k,get e k),h,b⟩) (hf:f (nxP fx ks f k) ⟨ks.map fun k=>(k,get e k),h,b⟩):Ew fx f ⟨e,h,b⟩:=by
 refine ⟨Nat × St,fun g=>g.2,fun g=>itF fx ks f g.1 g.2,fun g=>g.1,fun a b=>cl ks a=b∧leS fx a b,fun a b h=>⟨a,.refl _,h.2⟩,⟨(k,cl ks ⟨e,h,b⟩),Xl.mpr hf,_,.refl _,hl⟩,fun g hg=>?_⟩
 have e:nxP fx ks f g.1=fun s'=>∃ g':Nat × St,(itF fx ks f g'.1 g'.2∧g'.1<g.1)∧(cl ks s'=g'.2∧leS fx s' g'.2):=by
  funext s'
  refine propext ⟨fun ⟨hl,j,hj,h⟩=>⟨(j,cl ks s'),⟨h,hj⟩,rfl,hl⟩,fun ⟨g',⟨h,hj⟩,e,hl⟩=>⟨e▸hl,g'.1,hj,e▸h⟩⟩
 have h2:f (nxP fx ks f g.1) g.2:=Xl.mp hg
 rw [e] at h2
 exact h2
theorem iJ {z y:Nat} {els:List (List V)} {l u:Option Int} {m:Int} {K:V→Prop}:z7 h z (.bro y els) l u (some m) K=(y=z∧bN els.length l u (some m)∧K (Cj y u (some m) els.length ((els.drop (l.getD 0).toNat).take ((u.getD els.length).toNat-(l.getD 0).toNat)))):=rfl
theorem o4 {z y:Nat} {els:List (List V)} {l u:Option Int} {m:Int} {K:V→Prop}:z7 h z (.ro y els) l u (some m) K=(y=z∧bN els.length l u (some m)∧K (roF y u (some m) els.length ((els.drop (l.getD 0).toNat).take ((u.getD els.length).toNat-(l.getD 0).toNat)))):=rfl
theorem tK {z y:Nat} {els:List (List V)} {l u m:Option Int} {K:V→Prop}:z7 h z (.full y els) l u m K=(y=z∧bN els.length l u m∧K (.bro y ((els.drop (l.getD 0).toNat).take ((u.getD els.length).toNat-(l.getD 0).toNat)))):=rfl
theorem Dq {k:IntKind} {a b:Int} {K:V→Prop}:cL .shl k a b K=(0≤b∧K (.v (.int k (k.wrap (a*2 ^ (min b.toNat k.bits)))))):=rfl
theorem Hp {k:IntKind} {a b:Int} {K:V→Prop}:cL .shr k a b K=(0≤b∧K (.v (.int k (a.fdiv (2 ^ (min b.toNat k.bits)))))):=rfl
theorem bU {cx:Cx} {f:FuncId} {args:List V} {K:V→St→Prop} (ι:List Nat) {xs:List V} {x:V} {h0 h1:List Blk} (hC:cx.C f xs h0 [] (IsA x h1))
  (hι:ι.Nodup∧∀ k∈ι,k<h.length∧k∉cx.bn) (r0:ι.map (fun k=>bA (pos ι) (blk h k))=h0) (ha:aE h (pos ι) args∧wkL xs (aL h (pos ι) args)) (hlen:ι.length≤h1.length)
  (keep:aD cx.fx (aN ι (h1.map (bA (back ι h.length))) h)) (h3:K (ren (back ι h.length) x) ⟨e,aN ι (h1.map (bA (back ι h.length))) h,b⟩):aR cx f args ⟨e,h,b⟩ K :=
 l6 ι xs x _ h0 h1 _ hC hι r0 ha hlen rfl rfl keep h3
theorem Jk {x:Int}:IntKind.u64.wrap x=x%18446744073709551616:=rfl
theorem Gl {cx:Cx} {f:FuncId} {args:List V} {K:V→St→Prop} (k:Nat) {xs:List V} {x:V} {h0:Blk} (hC:cx.C f xs [h0] [0] (IsA x [.dead]))
  (hι:k<h.length∧k∉cx.bn) (hM:k∉cx.fx) (r0:bA (pos [k]) (blk h k)=h0) (ha:aE h (pos [k]) args∧wkL xs (aL h (pos [k]) args))
  (keep:aD cx.fx ((h.map (aK [k])).set k .dead)) (h3:K (ren (back [k] h.length) x) ⟨aM [k] e,(h.map (aK [k])).set k .dead,b⟩):aR cx f args ⟨e,h,b⟩ K:=by
 refine ⟨[k],xs,[0],IsA x [.dead],⟨⟨by simp,by simpa using hι⟩,by simpa using hM⟩,ha.1,ha.2,by simp only [List.map_cons,List.map_nil];rw [r0];exact hC,?_⟩
 rintro r h2 ⟨rfl,rfl⟩ _
 have e1:([0]:List Nat).filterMap ([k][·]?)=[k]:=by simp
 rw [e1]
 simp only [List.map_cons,List.map_nil,bA,aN,List.append_nil]
 exact ⟨keep,h3⟩
theorem ahN {cx:Cx} {f:FuncId} {args:List V} {K:V→St→Prop} (ι mv M:List Nat) {xs:List V} {x:V} {h0 h1:List Blk} (hC:cx.C f xs h0 mv (IsA x h1))
  (hι:ι.Nodup∧∀ k∈ι,k<h.length∧k∉cx.bn) (hM:mv.filterMap (ι[·]?)=M∧∀ j∈mv,∀ k,ι[j]?=some k→k∉cx.fx) (r0:ι.map (fun k=>bA (pos ι) (blk h k))=h0) (ha:aE h (pos ι) args∧wkL xs (aL h (pos ι) args))
  (keep:aD cx.fx (aN ι (h1.map (bA (back ι h.length))) (h.map (aK M)))) (h3:K (ren (back ι h.length) x) ⟨aM M e,aN ι (h1.map (bA (back ι h.length))) (h.map (aK M)),b⟩):aR cx f args ⟨e,h,b⟩ K:=by
 refine ⟨ι,xs,mv,IsA x h1,⟨hι,hM.2⟩,ha.1,ha.2,by rw [r0];exact hC,?_⟩
 rintro r h2 ⟨rfl,rfl⟩ _
 rw [hM.1]
 exact ⟨keep,h3⟩
theorem rK {cx:Cx} {x y:LCode} {N R:St→Prop} {X:Nat→St→Prop} {s:St} (h:∀ N':St→Prop,(∀ s',aw cx y N X R s'→N' s')→aw cx x N' X R s):aw cx (.seq x y) N X R s:=by
 have:=h (fun s'=>aw cx y N X R s') fun _ h=>h
 simpa only [aw] using this
theorem rG {xs ys:List V} {K:Bool→Prop}:dU xs ys [] K=K true:=rfl
theorem rH {xs ys:List V} {f:Nat × TypeDesc} {r:List (Nat × TypeDesc)} {K:Bool→Prop}:dU xs ys (f::r) K=eqC f.2 xs[f.1]? ys[f.1]? fun t=>dU xs ys r fun u=>K (t&&u):=rfl
theorem Br {a b:Int} {K:Bool→Prop}:eqC (.int .u8) (some (.v (.int .u8 a))) (some (.v (.int .u8 b))) K=K (a==b):=propext ⟨fun h=>h.2,fun h=>⟨⟨rfl,rfl⟩,h⟩⟩
theorem xC {a b:Int} {K:Bool→Prop}:eqC (.int .i64) (some (.v (.int .i64 a))) (some (.v (.int .i64 b))) K=K (a==b):=propext ⟨fun h=>h.2,fun h=>⟨⟨rfl,rfl⟩,h⟩⟩
theorem Fv {a b:ByteArray} {K:Bool→Prop}:eqC .string (some (.v (.string a))) (some (.v (.string b))) K=K (a==b):=propext ⟨fun h=>h.2,fun h=>⟨⟨rfl,rfl⟩,h⟩⟩
theorem l7 {xs:List V} {K:List V→Prop}:cW (mP (.agg xs)) K=K xs:=rfl
end
end Go.Fx
namespace Go.Fx.Q
open Go Go.Fx Go.Fx.K Go.Proofs Go.Fx.R
set_option maxRecDepth 20000
def Dg (l:List Int):List V:=l.map fun x=>.v (.int .u8 x)
theorem aQ {x:Int} {l:List Int}:Dg (x::l)=.v (.int .u8 x)::Dg l:=rfl
theorem aP:Dg []=[]:=rfl
theorem aeU {k:Int} {l:List Bs}:(us (cF k l)).length=16∧(us (cF k l)).take 16=us (cF k l)∧(us (cF k l)).drop 16=[]:=by
 have h:(us (cF k l)).length=16:=by rw [fK];exact cJ
 exact ⟨h,yaS (by omega),yaX (by omega)⟩
theorem aeG:(us z16).length=16∧(us z16).take 16=us z16∧(us z16).drop 16=[]:=by
 have h:(us z16).length=16:=by rw [fK];exact Ji
 exact ⟨h,yaS (by omega),yaX (by omega)⟩
theorem in1 {k:Int} {t:Bs} (h:t.length≤1000000):(inB k [t]).length≤1000000000000:=by
 have:=oX (t:=t) (by omega)
 simp [inB];omega
theorem in2 {k:Int} {a b:Bs} (ha:a.length≤1000000) (hb:b.length≤1000000):(inB k [a,b]).length≤1000000000000:=by
 have:=oX (t:=a) (by omega)
 have:=oX (t:=b) (by omega)
 simp [inB];omega
theorem aqL (t:Bs) (h:t.length≤1000000):Ok 46 [sv t] (Is (.agg (us (cF 30 [t])))):=by
 refine bO lw46 (by simp) ?_
 unfold c46
 simp -implicitDefEqProofs only [rX,↓rY,aA,cells?,↓reduceIte,reduceCtorEq,aF,bR,isD,Nat.reduceLT,cxN,dC,aO,w16]
 refine aJ (Wk 30 [t] (in1 h)) ⟨⟨trivial,yaC 1,trivial⟩,rfl,⟨rfl,rfl⟩,trivial⟩ (by simp [ren,cR]) trivial ?_
 simp -implicitDefEqProofs only [rX,↓rY,cells?,splice,↓reduceIte,Nat.reduceEqDiff,aY,a7,wfV,aeU,aeG,nR,eD]
theorem alB (t:Bs) (h:t.length≤1000000):Ok 54 [sv t] (Is (.agg (us (cF 34 [t])))):=by
 refine bO lw54 (by simp) ?_
 unfold c54
 simp -implicitDefEqProofs only [rX,↓rY,aA,cells?,↓reduceIte,reduceCtorEq,aF,bR,isD,Nat.reduceLT,cxN,dC,aO,w16]
 refine aJ (Wk 34 [t] (in1 h)) ⟨⟨trivial,yaC 1,trivial⟩,rfl,⟨rfl,rfl⟩,trivial⟩ (by simp [ren,cR]) trivial ?_
 simp -implicitDefEqProofs only [rX,↓rY,cells?,splice,↓reduceIte,Nat.reduceEqDiff,aY,a7,wfV,aeU,aeG,nR,eD]
theorem aaH {l:Bs}:(us l).map (fun c=>[c])=l.map by1:=by simp [us,by1]
theorem aqE (a b:Bs) (ha:a.length=16) (hb:b.length=16):Ok 78 [.agg (us a),.agg (us b)] (Is (.agg (us (cF 31 [a,b])))):=by
 refine bO lw78 (by simp) ?_
 unfold c78
 have a1:(us a).length=16:=by rw [fK,ha]
 have b1:(us b).length=16:=by rw [fK,hb]
 have a2:(us a).take 16=us a:=yaS (by omega)
 have b2:(us b).take 16=us b:=yaS (by omega)
 have dz:Int.toNat 0=0:=rfl
 simp -implicitDefEqProofs only [rX,↓rY,qt,aA,cells?,↓reduceIte,Nat.reduceEqDiff,Nat.reduceAdd,reduceCtorEq,aF,bN,bR,isD,Nat.reduceLT,↓qbx,yaH,cxN,dC,aO,w16,a1,b1,a2,b2,dz,yas,aaH,fE,Sn,or_true]
 refine ⟨by decide,by decide,?_,?_⟩
 all_goals
  refine aJ (Wk 31 [a,b] (in2 (by omega) (by omega))) ⟨⟨trivial,yaC 2,trivial⟩,rfl,⟨rfl,rfl⟩,trivial⟩ (by simp [ren,cR]) trivial ?_
  simp -implicitDefEqProofs only [rX,↓rY,cells?,splice,↓reduceIte,Nat.reduceEqDiff,aY,a7,wfV,aeU,aeG,nR,eD]
abbrev b0:Bs:=[61,180,35,244,234,148,52,206,165,222,209,48,215,248,84,127]
abbrev b1:Bs:=[150,51,110,183,215,64,129,63,44,59,229,164,41,251,51,109]
abbrev b2:Bs:=[71,183,28,14,158,216,74,46,56,7,142,106,144,155,190,78]
abbrev b3:Bs:=[128,57,7,224,86,54,192,245,212,252,180,3,181,158,177,60]
abbrev b4:Bs:=[234,0,36,187,175,156,197,91,20,135,111,207,85,81,77,160]
abbrev b5:Bs:=[29,101,148,63,131,195,11,235,39,74,48,99,89,202,22,140]
abbrev b6:Bs:=[84,79,25,33,96,37,196,4,165,188,122,106,53,188,57,146]
abbrev b7:Bs:=[227,173,155,168,199,24,156,178,49,5,191,135,175,87,247,134]
abbrev b8:Bs:=[118,35,123,122,152,77,120,183,158,164,51,182,202,0,207,54]
abbrev b9:Bs:=[162,0,221,62,58,50,41,63,195,155,200,22,39,110,89,185]
theorem hD:(cF 30 [[97,98,99,100]]=b0∧cF 30 [[101,102,103,104]]=b1∧cF 30 [[105,106]]=b2∧cF 30 [[105,120]]=b3∧cF 30 [[101,88,103,104]]=b4) ∧
  (cF 31 [b0,b1]=b5∧cF 31 [b5,b2]=b6∧cF 31 [b5,b3]=b7)∧cF 34 [[97,98,99,100,101,102,103,104]]=b8∧cF 34 [[97,98,99,100,88,101,102,103,104]]=b9:=by decide +kernel
def d0:List V:=Dg [61,180,35,244,234,148,52,206,165,222,209,48,215,248,84,127]
def d1:List V:=Dg [150,51,110,183,215,64,129,63,44,59,229,164,41,251,51,109]
def d2:List V:=Dg [71,183,28,14,158,216,74,46,56,7,142,106,144,155,190,78]
def d3:List V:=Dg [128,57,7,224,86,54,192,245,212,252,180,3,181,158,177,60]
def d4:List V:=Dg [234,0,36,187,175,156,197,91,20,135,111,207,85,81,77,160]
def d5:List V:=Dg [29,101,148,63,131,195,11,235,39,74,48,99,89,202,22,140]
def d6:List V:=Dg [84,79,25,33,96,37,196,4,165,188,122,106,53,188,57,146]
def d7:List V:=Dg [227,173,155,168,199,24,156,178,49,5,191,135,175,87,247,134]
def d8:List V:=Dg [118,35,123,122,152,77,120,183,158,164,51,182,202,0,207,54]
def d9:List V:=Dg [162,0,221,62,58,50,41,63,195,155,200,22,39,110,89,185]
theorem usD {b:Bs} {l:List Int} (h:(b.map fun x=>(x.toNat:Int))=l):us b=Dg l:=by
 rw [←h];simp [us,Dg,u8]
abbrev toI (b:Bs):List Int:=b.map fun x=>(x.toNat:Int)
theorem rL {t b:Bs} {l:List Int} (h:cF 30 [t]=b) (hu:toI b=l) (ht:t.length≤1000000):Ok 46 [sv t] (Is (.agg (Dg l))):=by
 rw [←usD hu,←h];exact aqL t ht
theorem rD {t b:Bs} {l:List Int} (h:cF 34 [t]=b) (hu:toI b=l) (ht:t.length≤1000000):Ok 54 [sv t] (Is (.agg (Dg l))):=by
 rw [←usD hu,←h];exact alB t ht
theorem rN {x y b:Bs} {d e f:List Int} (h:cF 31 [x,y]=b) (hx:toI x=d) (hy:toI y=e) (hu:toI b=f) (h1:x.length=16) (h2:y.length=16):Ok 78 [.agg (Dg d),.agg (Dg e)] (Is (.agg (Dg f))):=by
 rw [←usD hu,←usD hx,←usD hy,←h];exact aqE x y h1 h2
theorem L0:Ok 46 [sv [97,98,99,100]] (Is (.agg d0)):=rL hD.1.1 (by decide) (by decide)
theorem L1:Ok 46 [sv [101,102,103,104]] (Is (.agg d1)):=rL hD.1.2.1 (by decide) (by decide)
theorem L2:Ok 46 [sv [105,106]] (Is (.agg d2)):=rL hD.1.2.2.1 (by decide) (by decide)
theorem L3:Ok 46 [sv [105,120]] (Is (.agg d3)):=rL hD.1.2.2.2.1 (by decide) (by decide)
theorem L4:Ok 46 [sv [101,88,103,104]] (Is (.agg d4)):=rL hD.1.2.2.2.2 (by decide) (by decide)
theorem N5:Ok 78 [.agg d0,.agg d1] (Is (.agg d5)):=rN hD.2.1.1 (by decide) (by decide) (by decide) rfl rfl
theorem N6:Ok 78 [.agg d5,.agg d2] (Is (.agg d6)):=rN hD.2.1.2.1 (by decide) (by decide) (by decide) rfl rfl
theorem N7:Ok 78 [.agg d5,.agg d3] (Is (.agg d7)):=rN hD.2.1.2.2 (by decide) (by decide) (by decide) rfl rfl
theorem D8:Ok 54 [sv [97,98,99,100,101,102,103,104]] (Is (.agg d8)):=rD hD.2.2.1 (by decide) (by decide)
theorem D9:Ok 54 [sv [97,98,99,100,88,101,102,103,104]] (Is (.agg d9)):=rD hD.2.2.2 (by decide) (by decide)
end Go.Fx.Q
namespace Go.Fx.Q
open Go Go.Fx Go.Fx.K Go.Proofs Go.Fx.R
set_option maxRecDepth 20000
theorem r53 (t:Bs) (b:Int):Ok 53 [sv t,.i b] (IsA (.clo 89 [.ptr 0 0 0,.ptr 1 0 0]) [.var [sv t],.var [.i b]]):=by
 refine bO lw53 (by simp) ?_
 unfold c53
 simp -implicitDefEqProofs only [rX,↓rY,aA,cells?,↓reduceIte,Nat.reduceEqDiff,Nat.reduceAdd,reduceCtorEq,aF,aY,a7,leH,leB,leV,cI,aD,aC,wfB,wfV,wfL,Nat.reduceLeDiff,cxN,aO,bC]
abbrev xA:Bs:=[97,98,99,100,101,102,103,104,105,106]
theorem r24:Ok 24 [sv xA,.i 4] (Is (.ro 16 [d0,d1,d2])):=by
 refine vS (R:=fun q hs=>wk (.ro 16 [d0,d1,d2]) (gvV (fun _=>true) hs q)) ?_ fun _ _ h=>h
 refine bO lw24 (by simp) ?_
 unfold c24 c24a0 c24r0
 simp -implicitDefEqProofs only [rX,↓rY,aA,cells?,↓reduceIte,Nat.reduceEqDiff,reduceCtorEq,aF,cxN,aO,reduceIte,yac,yaa]
 refine gD _ _ _ _ _ (r53 xA 4) ⟨⟨trivial,trivial,trivial⟩,rfl,rfl,trivial⟩ rfl rfl trivial ?_
 simp -implicitDefEqProofs only [rX,Nat.reduceAdd,ren,bZ,bA,yab,Nat.reduceAdd,yaa]
 refine Ag 3 rfl rfl trivial ?_
 refine Ao pol _ lw89 (by simp [bZ]) ?_
 unfold c89 c89l0
 simp -implicitDefEqProofs only [rX,rZ,aA,↓reduceIte,Nat.reduceAdd,aO,yab,reduceIte,Nat.reduceAdd,yaa]
 refine bY [4,0,1,2] 3 (by simp -implicitDefEqProofs only [rX,kY,↓reduceIte,Nat.reduceEqDiff,reduceCtorEq,leE,leH,leB,leV,cI,aD,aC,wfE,wfB,wfV,wfL,yad,reduceIte,or_true]) ?_
 simp -implicitDefEqProofs only [rX,↓rY,rZ,↓rW,kw,kY,↓reduceIte,Nat.reduceEqDiff,Nat.reduceAdd,reduceCtorEq,bN,Nat.reduceLT,bP,gH,fY,eC,fX,yad,yaf,yah,yai,yab,yap,yam,decide_true,yaz,reduceIte,Nat.reduceAdd,Nat.reduceLT,yae,yac,we,cN,lo,Fx.hi,yaa,yao]
 refine ⟨rfl,Bg _ rfl rfl rfl ?_⟩
 simp -implicitDefEqProofs only [rX,↓rY,rZ,↓rW,rdK,↓reduceIte,Nat.reduceEqDiff,Nat.reduceAdd,fF,yad,yag,yab,reduceIte,Nat.reduceAdd,yac,yaa]
 refine aJ L0 ⟨⟨trivial,trivial⟩,rfl,trivial⟩ rfl ⟨trivial,trivial,trivial⟩ ?_
 simp -implicitDefEqProofs only [rX,↓rY,rZ,↓rW,cells?,splice,↓reduceIte,Nat.reduceEqDiff,Nat.reduceAdd,reduceCtorEq,aF,bR,isD,isC,Nat.reduceLT,Nat.reduceLeDiff,↓qbq,↓qbt,gI,yad,yag,yah,yai,yab,yav,yam,reduceIte,Nat.reduceAdd,Nat.reduceLeDiff,Nat.reduceLT,yaw,yaj,yae,yac,or_true,wg,lo,Fx.hi,yaa,isC,isD,d0,aQ,aP]
 refine fG (by simp -implicitDefEqProofs only [rX,kY,↓reduceIte,Nat.reduceEqDiff,reduceCtorEq,leE,leH,leB,leV,cI,aD,aC,wfE,wfB,wfV,wfL,yad,reduceIte,or_true]) ?_
 simp -implicitDefEqProofs only [rX,↓rY,rZ,↓rW,kw,kY,↓reduceIte,Nat.reduceEqDiff,Nat.reduceAdd,reduceCtorEq,bN,Nat.reduceLT,bP,gH,fY,eC,fX,yad,yaf,yah,yai,yab,yap,yam,decide_true,yaz,reduceIte,Nat.reduceAdd,Nat.reduceLT,yaj,yae,yac,we,cN,lo,Fx.hi,yaa]
 refine ⟨rfl,Bg _ rfl rfl rfl ?_⟩
 simp -implicitDefEqProofs only [rX,↓rY,rZ,↓rW,rdK,↓reduceIte,Nat.reduceEqDiff,Nat.reduceAdd,fF,yad,yag,yab,reduceIte,Nat.reduceAdd,yac,yaa]
 refine aJ L1 ⟨⟨trivial,trivial⟩,rfl,trivial⟩ rfl ⟨trivial,trivial,trivial⟩ ?_
 simp -implicitDefEqProofs only [rX,↓rY,rZ,↓rW,cells?,splice,↓reduceIte,Nat.reduceEqDiff,Nat.reduceAdd,reduceCtorEq,aF,bR,aM,aK,kill,bD,St.kill,isD,isC,Nat.reduceLT,Nat.reduceLeDiff,gI,aM,aK,kill,bD,yad,yag,yah,yai,yab,yav,yam,reduceIte,Nat.reduceAdd,Nat.reduceLeDiff,Nat.reduceLT,yaw,yaj,yae,yac,or_true,wg,lo,Fx.hi,yaa,isC,isD,d1,aQ,aP]
 refine fG (by simp -implicitDefEqProofs only [rX,kY,↓reduceIte,Nat.reduceEqDiff,reduceCtorEq,leE,leH,leB,leV,cI,aD,aC,wfE,wfB,wfV,wfL,yad,reduceIte,or_true]) ?_
 simp -implicitDefEqProofs only [rX,↓rY,rZ,↓rW,kw,kY,↓reduceIte,Nat.reduceEqDiff,Nat.reduceAdd,reduceCtorEq,bN,Nat.reduceLT,bP,gH,fY,eC,fX,yad,yaf,yah,yai,yab,yap,yam,decide_true,yaz,reduceIte,Nat.reduceAdd,Nat.reduceLT,yaj,yae,yac,we,cN,lo,Fx.hi,yaa]
 refine ⟨rfl,Bg _ rfl rfl rfl ?_⟩
 simp -implicitDefEqProofs only [rX,↓rY,rZ,↓rW,rdK,↓reduceIte,Nat.reduceEqDiff,Nat.reduceAdd,fF,yad,yag,yab,reduceIte,Nat.reduceAdd,yac,yaa]
 refine aJ L2 ⟨⟨trivial,trivial⟩,rfl,trivial⟩ rfl ⟨trivial,trivial,trivial⟩ ?_
 simp -implicitDefEqProofs only [rX,↓rY,rZ,↓rW,cells?,splice,↓reduceIte,Nat.reduceEqDiff,Nat.reduceAdd,reduceCtorEq,aF,bR,aM,aK,kill,bD,St.kill,isD,isC,Nat.reduceLT,Nat.reduceLeDiff,gI,aM,aK,kill,bD,yad,yag,yah,yai,yab,yav,yam,reduceIte,Nat.reduceAdd,Nat.reduceLeDiff,Nat.reduceLT,yaw,yaj,yae,yac,or_true,wg,lo,Fx.hi,yaa,isC,isD,d2,aQ,aP]
 refine fG (by simp -implicitDefEqProofs only [rX,kY,↓reduceIte,Nat.reduceEqDiff,reduceCtorEq,leE,leH,leB,leV,cI,aD,aC,wfE,wfB,wfV,wfL,yad,reduceIte,or_true]) ?_
 simp -implicitDefEqProofs only [rX,↓rY,↓rW,kY,↓reduceIte,Nat.reduceEqDiff,Nat.reduceAdd,reduceCtorEq,aY,a7,aD,aC,wfE,wfB,wfV,wfL,Nat.reduceLT,bP,yad,yag,yaf,yah,yab,decide_false,reduceIte,Nat.reduceAdd,Nat.reduceLT,yac,wg,yaa,cC]
 refine ⟨_,⟨aU _,by simp -implicitDefEqProofs only [rX,Nat.reduceAdd,aC,wfB,wfV,wfL,Nat.reduceLeDiff,yad,yab,Nat.reduceAdd,Nat.reduceLeDiff,yaa]⟩,?_⟩
 simp [gvV,gvL,wk,wkL,wkR,blk]
end Go.Fx.Q
namespace Go.Proofs
open Go.Shelf
def Tryz.lays125_ren:Go.Shelf.Ren:=⟨fun|125=>68|128=>106|129=>107|n=>n,fun|46=>134|3=>3|51=>171|53=>173|4=>4|5=>5|9=>9|n=>n,fun|n=>n⟩
theorem Tryz.lays125:Go.Proofs.Lays.n125 Tryz.prog Tryz.lays125_ren:={
 mixed:=by kernel_rfl
 f125:=Tryz.func68.trans (congrArg some (by kernel_rfl))
 f128:=Tryz.func106.trans (congrArg some (by kernel_rfl))
 f129:=Tryz.func107.trans (congrArg some (by kernel_rfl))
 t3:=Tryz.underlying3
 a3:=Tryz.isAgg3
 z3:=Tryz.sizeOf3
 v3:=Tryz.zeroValue3
 t4:=Tryz.underlying4
 a4:=Tryz.isAgg4
 z4:=Tryz.sizeOf4
 v4:=Tryz.zeroValue4
 t5:=Tryz.underlying5
 a5:=Tryz.isAgg5
 z5:=Tryz.sizeOf5
 v5:=Tryz.zeroValue5
 t9:=Tryz.underlying9
 a9:=Tryz.isAgg9
 z9:=Tryz.sizeOf9
 v9:=Tryz.zeroValue9
 t46:=Tryz.underlying134
 a46:=Tryz.isAgg134
 z46:=Tryz.sizeOf134
 v46:=Tryz.zeroValue134
 t51:=Tryz.underlying171
 a51:=Tryz.isAgg171
 z51:=Tryz.sizeOf171
 v51:=Tryz.zeroValue171
 t53:=Tryz.underlying173
 a53:=Tryz.isAgg173
 z53:=Tryz.sizeOf173
 v53:=Tryz.zeroValue173 }
theorem Tryz.bits_Len (x:Int) (w:World) (h0:0≤x) (h1:x≤18446744073709551615) :
  Calls Tryz.prog 68 #[.int .u64 x] w fun e w'=>e=.returned (.int .i64 (Lib.bitLen x.toNat))∧w'=w:=Any.bits_Len Tryz.lays125 x w h0 h1
end Go.Proofs
namespace Go.Fx.Q
open Go Go.Fx Go.Fx.K Go.Proofs Go.Fx.R
set_option maxRecDepth 20000
theorem Wj (n m:Nat) (h:Lib.bitLen n=m) (hn:n<10):Ok 68 [.v (.int .u64 n)] (Is (.i m)):=by
 refine ⟨⟨_,Tryz.func68,rfl,rfl⟩,?_⟩
 intro ρ X w vals hr ha
 match vals,ha with
 | [v0],⟨h0,_⟩ =>
  have h0':v0=.int .u64 n:=h0
  subst h0'
  refine (Tryz.bits_Len n w (by omega) (by omega)).mono ?_
  rintro e w' ⟨rfl,rfl⟩
  refine ⟨_,_,[],ρ,rfl,⟨⟨rfl,rfl⟩,yaC _⟩,Fr.refl _ _,hr,?_,fun k hk=>absurd hk (yaM _)⟩
  show _=Value.int .i64 _
  rw [yaH,h]
theorem r77 (n:Nat) (h:n=1∨n=2):Ok 77 [.i (n+1:Nat)] (Is (.i n)):=by
 refine bO lw77 (by simp) ?_
 rcases h with rfl|rfl
 all_goals
  unfold c77
  simp -implicitDefEqProofs only [rX,↓rY,aA,↓reduceIte,Nat.reduceAdd,reduceCtorEq,cxN,aO,yaf,yai,yab,yak,yam,yaE,reduceIte,Nat.reduceAdd,yal,yac,lo,Fx.hi,Jk]
  first
   | refine aJ (Wj 1 1 (by decide) (by decide)) ⟨⟨trivial,trivial⟩,rfl,trivial⟩ rfl trivial ?_
   | refine aJ (Wj 2 2 (by decide) (by decide)) ⟨⟨trivial,trivial⟩,rfl,trivial⟩ rfl trivial ?_
  simp -implicitDefEqProofs only [rX,↓rY,aA,↓reduceIte,aY,a7,wfV,yaf,yai,yak,yam,reduceIte,yal,yac,lo,Fx.hi,yao,yar,Dq]
  decide
theorem afR (d:List V) (h:d=d0∨d=d1∨d=d2):Ok 43 [.bro 16 [d]] (Is (.agg d)):=by
 refine bO lw43 (by simp) ?_
 unfold c43
 rcases h with rfl|rfl|rfl<;>simp -implicitDefEqProofs only [rX,↓rY,aA,cells?,splice,↓reduceIte,Nat.reduceEqDiff,Nat.reduceAdd,reduceCtorEq,aF,aY,a7,wfV,wfL,isC,Nat.reduceLT,Nat.reduceLeDiff,cxN,aO,yaf,yah,yai,yab,yak,yax,BEq.rfl,reduceIte,Nat.reduceAdd,yal,Nat.reduceLeDiff,Nat.reduceLT,yaj,yae,yac,we,wg,yaa,yaq,yaA,exists_prop,maxLen,yan,true_implies,isC,yao,d0,d1,d2,aQ,aP]
theorem akG:Ok 43 [.bro 16 [d0,d1]] (Is (.agg d5)):=by
 refine bO lw43 (by simp) ?_
 unfold c43
 simp -implicitDefEqProofs only [rX,↓rY,aA,cells?,splice,↓reduceIte,Nat.reduceEqDiff,Nat.reduceAdd,reduceCtorEq,aF,aY,a7,wfV,wfL,isC,Nat.reduceLT,Nat.reduceLeDiff,cxN,aO,yaf,yah,yai,yab,yak,yax,reduceIte,Nat.reduceAdd,yal,Nat.reduceLeDiff,Nat.reduceLT,yae,yac,wg,yaa,yaq,yaA,exists_prop,maxLen,yan,true_implies,isC,yao,d0,d1,aQ,aP]
 refine aJ (r77 1 (.inl rfl)) (by simp [aE,aG,aL,a6,blk,wkL,wk,wkR,wkB,d0,d1,d2,d3,d4,d5,d6,d7,d8,d9,aQ,aP]) rfl trivial ?_
 simp -implicitDefEqProofs only [rX,↓rY,↓reduceIte,Nat.reduceEqDiff,Nat.reduceAdd,reduceCtorEq,bN,yaf,yai,yab,yak,yap,yaB,reduceIte,Nat.reduceAdd,yal,yaj,yae,yac,yaa,yao,yar,yat,yas,iJ,Cj]
 repeat' first
  | with_reducible refine And.intro ?_ ?_
  | ((with_reducible show aR _ 43 _ _ _);refine aJ (afR d0 (.inl rfl)) ?_ ?_ ?_ ?_;(focus simp [aE,aG,aL,a6,blk,wkL,wk,wkR,wkB,d0,d1,d2,d3,d4,d5,d6,d7,d8,d9,aQ,aP,d0,d1,d5,aQ,aP];done);(focus rfl);(focus simp [aD,aC];done))
  | ((with_reducible show aR _ 43 _ _ _);refine aJ (afR d1 (.inr (.inl rfl))) ?_ ?_ ?_ ?_;(focus simp [aE,aG,aL,a6,blk,wkL,wk,wkR,wkB,d0,d1,d2,d3,d4,d5,d6,d7,d8,d9,aQ,aP,d0,d1,d5,aQ,aP];done);(focus rfl);(focus simp [aD,aC];done))
  | ((with_reducible show aR _ 78 _ _ _);refine aJ (N5) ?_ ?_ ?_ ?_;(focus simp [aE,aG,aL,a6,blk,wkL,wk,wkR,wkB,d0,d1,d2,d3,d4,d5,d6,d7,d8,d9,aQ,aP,d0,d1,d5,aQ,aP];done);(focus rfl);(focus simp [aD,aC];done))
  | simp -implicitDefEqProofs only [rX,↓rY,cells?,splice,↓reduceIte,Nat.reduceEqDiff,Nat.reduceAdd,aY,a7,wfV,wfL,isC,yab,reduceIte,Nat.reduceAdd,yaj,yae,yac,yaa,isC,d0,d1,d5,aQ,aP]
  | rfl
theorem akF:Ok 43 [.bro 16 [d0,d1,d2]] (Is (.agg d6)):=by
 refine bO lw43 (by simp) ?_
 unfold c43
 simp -implicitDefEqProofs only [rX,↓rY,aA,cells?,splice,↓reduceIte,Nat.reduceEqDiff,Nat.reduceAdd,reduceCtorEq,aF,aY,a7,wfV,wfL,isC,Nat.reduceLT,Nat.reduceLeDiff,cxN,aO,yaf,yah,yai,yab,yak,yax,reduceIte,Nat.reduceAdd,yal,Nat.reduceLeDiff,Nat.reduceLT,yae,yac,wg,yaa,yaq,yaA,exists_prop,maxLen,yan,true_implies,isC,yao,d0,d1,d2,aQ,aP]
 refine aJ (r77 2 (.inr rfl)) (by simp [aE,aG,aL,a6,blk,wkL,wk,wkR,wkB,d0,d1,d2,d3,d4,d5,d6,d7,d8,d9,aQ,aP]) rfl trivial ?_
 simp -implicitDefEqProofs only [rX,↓rY,↓reduceIte,Nat.reduceEqDiff,Nat.reduceAdd,reduceCtorEq,bN,yaf,yai,yab,yak,yap,yaB,reduceIte,Nat.reduceAdd,yal,yaj,yae,yac,yaa,yao,yat,yas,iJ,Cj]
 repeat' first
  | with_reducible refine And.intro ?_ ?_
  | ((with_reducible show aR _ 43 _ _ _);refine aJ (akG) ?_ ?_ ?_ ?_;(focus simp [aE,aG,aL,a6,blk,wkL,wk,wkR,wkB,d0,d1,d2,d3,d4,d5,d6,d7,d8,d9,aQ,aP,d2,d5,d6,aQ,aP];done);(focus rfl);(focus simp [aD,aC];done))
  | ((with_reducible show aR _ 43 _ _ _);refine aJ (afR d2 (.inr (.inr rfl))) ?_ ?_ ?_ ?_;(focus simp [aE,aG,aL,a6,blk,wkL,wk,wkR,wkB,d0,d1,d2,d3,d4,d5,d6,d7,d8,d9,aQ,aP,d2,d5,d6,aQ,aP];done);(focus rfl);(focus simp [aD,aC];done))
  | ((with_reducible show aR _ 78 _ _ _);refine aJ (N6) ?_ ?_ ?_ ?_;(focus simp [aE,aG,aL,a6,blk,wkL,wk,wkR,wkB,d0,d1,d2,d3,d4,d5,d6,d7,d8,d9,aQ,aP,d2,d5,d6,aQ,aP];done);(focus rfl);(focus simp [aD,aC];done))
  | simp -implicitDefEqProofs only [rX,↓rY,cells?,splice,↓reduceIte,Nat.reduceEqDiff,Nat.reduceAdd,aY,a7,wfV,wfL,isC,yab,reduceIte,Nat.reduceAdd,yaj,yae,yac,yaa,isC,d2,d5,d6,aQ,aP]
  | rfl
theorem r42 (n:Int) (h:n=10∨n=9∨n=8):Ok 42 [.i n,.i 4] (Is (.i ((n+3)/4))):=by
 refine bO lw42 (by simp) ?_
 unfold c42
 rcases h with rfl|rfl|rfl<;>simp -implicitDefEqProofs only [rX,↓rY,aA,↓reduceIte,Nat.reduceEqDiff,Nat.reduceAdd,reduceCtorEq,aY,a7,wfV,cxN,aO,yai,yab,yak,yaI,yam,yaF,yaB,ne_eq,reduceIte,Nat.reduceAdd,yal,yac,lo,Fx.hi,yaa]
abbrev mA:List V:=.i 10::.i 4::d6
theorem r13:Ok 13 [sv xA,.i 4] (Is (.tup [.agg mA,.i 0])):=by
 refine bO lw13 (by simp) ?_
 unfold c13
 simp -implicitDefEqProofs only [rX,↓rY,aA,cells?,splice,↓reduceIte,Nat.reduceEqDiff,Nat.reduceAdd,reduceCtorEq,aF,bJ,aY,a7,wfV,wfL,isC,Nat.reduceLT,cxN,bP,aO,yaf,yah,yab,decide_false,reduceIte,Nat.reduceAdd,Nat.reduceLT,yae,yac,we,wg,yaa,isC]
 repeat' first
  | with_reducible refine And.intro ?_ ?_
  | ((with_reducible show aR _ 42 _ _ _);refine aJ (r42 10 (.inl rfl)) ?_ ?_ ?_ ?_;(focus simp [aE,aG,aL,a6,blk,wkL,wk,wkR,wkB,d0,d1,d2,d3,d4,d5,d6,d7,d8,d9,aQ,aP,d6,aQ,aP];done);(focus rfl);(focus simp [aD,aC];done))
  | ((with_reducible show aR _ 24 _ _ _);refine aJ (r24) ?_ ?_ ?_ ?_;(focus simp [aE,aG,aL,a6,blk,wkL,wk,wkR,wkB,d0,d1,d2,d3,d4,d5,d6,d7,d8,d9,aQ,aP,d6,aQ,aP];done);(focus rfl);(focus simp [aD,aC];done))
  | ((with_reducible show aR _ 43 _ _ _);refine aJ (akF) ?_ ?_ ?_ ?_;(focus simp [aE,aG,aL,a6,blk,wkL,wk,wkR,wkB,d0,d1,d2,d3,d4,d5,d6,d7,d8,d9,aQ,aP,d6,aQ,aP];done);(focus rfl);(focus simp [aD,aC];done))
  | simp -implicitDefEqProofs only [rX,↓rY,aA,cells?,splice,↓reduceIte,Nat.reduceEqDiff,Nat.reduceAdd,reduceCtorEq,bJ,aY,a7,wfV,wfL,isC,Nat.reduceLT,Nat.reduceLeDiff,bP,yaf,yah,yab,yaF,decide_false,reduceIte,Nat.reduceAdd,Nat.reduceLeDiff,Nat.reduceLT,yaj,yae,yac,wg,yaa,isC,d6,aQ,aP]
  | rfl
end Go.Fx.Q
namespace Go.Fx.Q
open Go Go.Fx Go.Fx.K Go.Proofs Go.Fx.R
set_option maxRecDepth 20000
abbrev sp (a b:Int):List V:=[.i a,.i b]
abbrev lA:List (List V):=[sp 0 2,sp 5 6,sp 8 9,sp 6 8]
abbrev lB:List (List V):=[sp 0 2,sp 5 6,sp 6 8,sp 8 9]
abbrev lC:List (List V):=[sp 4 8]
abbrev hA (l m:List (List V)):List Blk:=[.var [.ro 2 l],.dead,.dead,.dead,.dead,.dead,.dead,.arr 2 m]
theorem akJ (l:List (List V)) (h:l=lA∨l=lC):OkN Tryz.prog 125 [.nil,.clo 114 [.ptr 0 0 0]] [.var [.ro 2 l]] [] (IsA (.sl 7 0 l.length) (hA l l)):=by
 refine cO pol [0] lw125 (by simp) ⟨trivial,trivial⟩ (fun k hk hm=>by simp at hk ⊢;omega) ?_
 rcases h with rfl|rfl
 all_goals
  unfold c125 c125a0 c125r0
  simp -implicitDefEqProofs only [rX,↓rY,aA,cells?,↓reduceIte,Nat.reduceEqDiff,Nat.reduceAdd,reduceCtorEq,aF,cxN,aO,yad,yag,yab,reduceIte,Nat.reduceAdd,yac,yaa]
  repeat' first
   | with_reducible refine And.intro ?_ ?_
   | (refine Ag _ rfl rfl trivial ?_;refine Ao pol _ lw114 ?_ ?_;(focus simp [bZ];done);unfold c114 c114l0)
   | refine ⟨rfl,Bg _ rfl rfl rfl ?_⟩
   | (refine bY [0,1,5,6,7] 9 ?_ ?_;(focus simp -implicitDefEqProofs only [rX,kY,↓reduceIte,Nat.reduceEqDiff,reduceCtorEq,leE,leH,leB,leV,cI,aD,aC,wfE,wfB,wfV,wfL,yad,reduceIte,or_true];done))
   | (refine fG ?_ ?_;(focus simp -implicitDefEqProofs only [rX,kY,↓reduceIte,Nat.reduceEqDiff,reduceCtorEq,leE,leH,leB,leV,cI,aD,aC,wfE,wfB,wfV,wfL,yad,reduceIte,or_true];done))
   | simp -implicitDefEqProofs only [rX,↓rY,rZ,↓rW,kY,aA,cells?,splice,↓reduceIte,Nat.reduceEqDiff,Nat.reduceAdd,reduceCtorEq,aF,bR,aY,a7,leH,leB,leV,cI,aD,aC,wfE,wfB,wfV,wfL,aM,aK,kill,bD,St.kill,isD,isC,Nat.reduceLT,Nat.reduceLeDiff,↓qbq,↓qbt,gH,gI,fF,aO,aM,aK,kill,bD,yad,yag,bC,yaf,yah,yai,yab,yak,yav,yap,yam,decide_true,decide_false,reduceIte,Nat.reduceAdd,yal,Nat.reduceLeDiff,Nat.reduceLT,yaw,yaj,yae,yac,or_true,we,wg,lo,Fx.hi,yaa,yaq,yau,exists_prop,maxLen,yan,true_implies,isC,isD,yao,yar]
   | rfl
theorem akM (l:List (List V)) (h:l=lA∨l=lC):OkN Tryz.prog 112 [.clo 114 [.ptr 0 0 0]] [.var [.ro 2 l]] [] (IsA (.sl 7 0 l.length) (hA l l)):=by
 refine cO pol [0] lw112 (by simp) ⟨trivial,trivial⟩ (fun k hk hm=>by simp at hk ⊢;omega) ?_
 rcases h with rfl|rfl
 all_goals
  unfold c112
  simp -implicitDefEqProofs only [rX,aA,↓reduceIte,Nat.reduceAdd,reduceCtorEq,cxN,aO,yab,reduceIte,Nat.reduceAdd,yaa]
  repeat' first
   | with_reducible refine And.intro ?_ ?_
   | ((with_reducible show aR _ 125 _ _ _);refine bU [0] (akJ _ (.inl rfl)) ?_ rfl ?_ ?_ ?_ ?_;(focus simp;done);(focus simp [aE,aG,aL,a6,blk,wkL,wk,wkR,wkB,d0,d1,d2,d3,d4,d5,d6,d7,d8,d9,aQ,aP,pos];done);(focus simp;done);(focus simp [aN,bA,aD,aC];done))
   | ((with_reducible show aR _ 125 _ _ _);refine bU [0] (akJ _ (.inr rfl)) ?_ rfl ?_ ?_ ?_ ?_;(focus simp;done);(focus simp [aE,aG,aL,a6,blk,wkL,wk,wkR,wkB,d0,d1,d2,d3,d4,d5,d6,d7,d8,d9,aQ,aP,pos];done);(focus simp;done);(focus simp [aN,bA,aD,aC];done))
   | simp -implicitDefEqProofs only [rX,↓reduceIte,Nat.reduceAdd,aY,a7,leH,leB,leV,cI,aD,aC,wfB,wfV,wfL,Nat.reduceLeDiff,ren,bZ,bA,back,aN,yay,yad,bC,yab,yak,reduceIte,Nat.reduceAdd,yal,Nat.reduceLeDiff,yaa]
   | rfl
theorem r87 (a b:Int) (h:(a=5∨a=6∨a=8)∧(b=0∨b=5∨b=8)) (x y:Int):Ok 87 [.agg (sp a x),.agg (sp b y)] (Is (.i (a-b))):=by
 refine bO lw87 (by simp) ?_
 unfold c87
 simp -implicitDefEqProofs only [rX,↓rY,aA,cells?,↓reduceIte,Nat.reduceEqDiff,Nat.reduceAdd,reduceCtorEq,aF,aY,a7,wfV,cxN,aO,yad,yag,yab,yam,reduceIte,Nat.reduceAdd,yac,lo,Fx.hi,yaa]
 omega
theorem r86 (l:List (List V)):Ok 86 [.ro 2 l] (IsA (.clo 114 [.ptr 0 0 0]) [.var [.ro 2 l]]):=by
 refine bO lw86 (by simp) ?_
 unfold c86
 simp -implicitDefEqProofs only [rX,↓rY,aA,cells?,↓reduceIte,Nat.reduceEqDiff,aF,aY,a7,leH,leB,leV,cI,aD,aC,wfB,wfV,wfL,Nat.reduceLeDiff,cxN,aO,bC,reduceIte,Nat.reduceLeDiff,yac,yaa]
theorem akP (l m:List (List V)) (n:Int) (h:(l=lA∧m=lB)∧n=4∨(l=lC∧m=lC)∧n=1):OkN Tryz.prog 110 [.sl 0 0 l.length,.i 0,.i n,.clo 87 []] [.arr 2 l] [] (IsA (.tup []) [.arr 2 m]):=by
 refine cO pol [0] lw110 (by simp) ⟨trivial,trivial⟩ (fun k hk hm=>by simp at hk ⊢;omega) ?_
 rcases h with ⟨⟨rfl,rfl⟩,rfl⟩|⟨⟨rfl,rfl⟩,rfl⟩
 all_goals
  unfold c110 c110l0 c110l1
  simp -implicitDefEqProofs only [rX,↓rY,aA,↓reduceIte,Nat.reduceAdd,reduceCtorEq,cxN,aO,yai,yab,yam,reduceIte,Nat.reduceAdd,yac,lo,Fx.hi,yaa]
  repeat' first
   | with_reducible refine And.intro ?_ ?_
   | (refine bY [0,1,2,3,8,9] 9 ?_ ?_;(focus simp -implicitDefEqProofs only [rX,kY,↓reduceIte,Nat.reduceEqDiff,reduceCtorEq,leE,leH,leB,aD,aC,wfE,wfB,wfV,wfL,reduceIte];done))
   | (refine fG ?_ ?_;(focus simp -implicitDefEqProofs only [rX,kY,↓reduceIte,Nat.reduceEqDiff,reduceCtorEq,leE,leH,leB,aD,aC,wfE,wfB,wfV,wfL,yam,reduceIte];done))
   | ((with_reducible show aR _ 87 _ _ _);refine aJ (r87 5 0 (by decide) 6 2) ?_ ?_ ?_ ?_;(focus simp [aE,aG,aL,a6,blk,wkL,wk,wkR,wkB,d0,d1,d2,d3,d4,d5,d6,d7,d8,d9,aQ,aP];done);(focus rfl);(focus simp [aD,aC];done))
   | ((with_reducible show aR _ 87 _ _ _);refine aJ (r87 8 5 (by decide) 9 6) ?_ ?_ ?_ ?_;(focus simp [aE,aG,aL,a6,blk,wkL,wk,wkR,wkB,d0,d1,d2,d3,d4,d5,d6,d7,d8,d9,aQ,aP];done);(focus rfl);(focus simp [aD,aC];done))
   | ((with_reducible show aR _ 87 _ _ _);refine aJ (r87 6 8 (by decide) 8 9) ?_ ?_ ?_ ?_;(focus simp [aE,aG,aL,a6,blk,wkL,wk,wkR,wkB,d0,d1,d2,d3,d4,d5,d6,d7,d8,d9,aQ,aP];done);(focus rfl);(focus simp [aD,aC];done))
   | ((with_reducible show aR _ 87 _ _ _);refine aJ (r87 6 5 (by decide) 8 6) ?_ ?_ ?_ ?_;(focus simp [aE,aG,aL,a6,blk,wkL,wk,wkR,wkB,d0,d1,d2,d3,d4,d5,d6,d7,d8,d9,aQ,aP];done);(focus rfl);(focus simp [aD,aC];done))
   | simp -implicitDefEqProofs only [rX,↓rY,rdK,kY,aA,cells?,splice,↓reduceIte,Nat.reduceEqDiff,dB,Nat.reduceAdd,reduceCtorEq,aY,a7,leH,leB,aD,aC,wfB,wfV,wfL,isD,isC,Nat.reduceLT,yag,bC,yaf,yah,yai,yab,yak,yap,yam,decide_true,decide_false,reduceIte,Nat.reduceAdd,yal,Nat.reduceLT,yaj,yae,yac,we,wg,lo,Fx.hi,yaa,yaq,yau,exists_prop,isC,isD,yao,yar,yat,yas]
   | rfl
abbrev lP (l m:List (List V)) (n:Int):Prop:=(l=lA∧m=lB)∧n=4∨(l=lC∧m=lC)∧n=1
theorem apV (l m:List (List V)) (n k:Int) (h:lP l m n):OkN Tryz.prog 126 [.sl 0 0 l.length,.i 0,.i n,.i k,.clo 87 []] [.arr 2 l] [] (IsA (.tup []) [.arr 2 m]):=by
 refine cO pol [0] lw126 (by simp) ⟨trivial,trivial⟩ (fun k hk hm=>by simp at hk ⊢;omega) ?_
 have o:=akP l m n h
 rcases h with ⟨⟨rfl,rfl⟩,rfl⟩|⟨⟨rfl,rfl⟩,rfl⟩
 all_goals
  unfold c126 c126l0
  simp -implicitDefEqProofs only [rX,aA,Nat.reduceAdd,cxN,aO,yab,Nat.reduceAdd,yaa]
  repeat' first
   | with_reducible refine And.intro ?_ ?_
   | (refine bY [0,1,2,3,4,10,11] 9 ?_ ?_;(focus simp -implicitDefEqProofs only [rX,kY,↓reduceIte,Nat.reduceEqDiff,reduceCtorEq,leE,leH,leB,aD,aC,wfE,wfB,wfV,wfL,reduceIte];done))
   | (refine fG ?_ ?_;(focus simp -implicitDefEqProofs only [rX,↓rY,rZ,↓rW,qg,qi,qk,ql,qm,qp,qq,qt,qw,qx,qy,qz,qA,qC,qD,qE,qF,qG,qH,qI,qO,rdK,zF,zI,zR,zW,zX,zY,zZ,ka,kg,kh,kj,kk,kp,kq,kv,kw,kF,kM,kN,kY,aA,cells?,splice,↓reduceIte,Nat.reduceEqDiff,dB,Nat.reduceAdd,reduceCtorEq,aF,bN,bJ,bR,aY,a7,leE,leH,leB,leV,cI,aD,aC,wfE,wfB,wfV,wfL,aM,aK,kill,bD,St.kill,isD,isC,Nat.reduceLT,Nat.reduceLeDiff,wZ,ja,jd,je,ji,jj,jn,jo,jt,ju,jz,jA,jE,jF,jJ,jK,jU,jV,jW,jX,jY,jZ,qaa,qab,qac,qad,qae,qaf,qag,qah,qai,qaj,qak,qal,qam,qan,qao,qap,qaq,qar,↓qau,↓qaN,↓qaO,↓qaS,↓qaT,↓qaX,↓qbe,↓qbf,↓qbl,↓qbm,↓qbo,↓qbp,↓qbq,↓qbt,↓qbu,↓qbx,↓qbz,↓qbB,↓qbC,↓qbD,↓qbH,↓qbI,↓qbK,↓qbL,↓qbM,↓qbN,↓qbQ,↓qbR,↓qbS,↓qbW,↓qbY,↓qcb,↓qcc,↓qcd,↓qce,↓qcf,↓qcg,↓qch,↓qci,↓qcj,↓qck,↓qcl,↓qcm,↓qcn,yaN,yaH,cxN,Fi,pI,uG,yaL,bP,dZ,uP,pE,lN,Gb,Ga,Fz,Fy,lQ,lO,pF,Gc,lR,lJ,lK,fD,Ft,dC,less,oK,gH,sT,x5,yW,nC,nQ,mQ,nD,uK,uJ,yM,fY,s9,gI,xR,yK,sJ,tD,eC,iR,Hh,Hk,mZ,nM,mR,nE,j8,nP,xW,yS,xV,yQ,mS,nF,xU,yP,sF,sZ,Hg,Hj,iQ,iT,sH,tC,xS,yL,sA,sW,mW,nJ,iP,iS,sB,sX,mT,nG,r9,sV,m9,nN,rV,sS,xP,yI,xO,yH,xN,yG,rU,sR,mU,nH,xQ,yJ,sM,tG,sN,tH,x8,yZ,rS,sP,xL,yE,xK,yD,xJ,x9,fX,sO,rT,sQ,Hf,Hi,sG,tA,xM,yF,xY,yU,xZ,yV,mX,nK,mV,nI,x6,yX,mY,nL,xX,yT,x7,yY,sE,sY,sL,tF,sK,tE,xT,yN,r8,sU,nA,nO,↓Au,fF,v6,o7,aO,ren,bZ,bA,back,pos,aN,aM,aK,kill,bD,yay,yad,yag,bC,yaf,yah,yai,yab,yak,yav,yaI,yap,yax,yaD,BEq.rfl,yam,yaE,yaF,yaB,yaO,ne_eq,decide_true,decide_false,yaz,yaG,reduceIte,Nat.reduceAdd,yal,Nat.reduceLeDiff,Nat.reduceLT,yaw,yaj,yae,yac,true_or,or_true,we,wg,cN,lo,Fx.hi,yaa,yaq,yau,yaA,yaP,exists_prop,maxLen,yan,true_implies,isC,isD,yao,yar,yat,yas,Dq,Hp,iJ,o4,tK,Cj,roF,Jk,rG,rH,Br,xC,Fv,l7,yaJ,yaK];done))
   | (refine bU [0] (o) ?_ rfl ?_ ?_ ?_ ?_;(focus simp;done);(focus simp [aE,aG,aL,a6,blk,wkL,wk,wkR,wkB,d0,d1,d2,d3,d4,d5,d6,d7,d8,d9,aQ,aP,pos];done);(focus simp;done);(focus simp [aN,bA,aD,aC];done))
   | simp -implicitDefEqProofs only [rX,↓rY,kY,aA,↓reduceIte,Nat.reduceEqDiff,reduceCtorEq,aY,a7,leH,leB,aD,aC,wfB,wfV,wfL,ren,bZ,bA,aN,bC,yai,yam,decide_true,reduceIte,yac,we,wg,lo,Fx.hi,yaa,yat,yas]
   | rfl
theorem apX (l m:List (List V)) (n:Int) (h:lP l m n):OkN Tryz.prog 113 [.sl 0 0 l.length,.clo 87 []] [.arr 2 l] [] (IsA (.tup []) [.arr 2 m]):=by
 refine cO pol [0] lw113 (by simp) ⟨trivial,trivial⟩ (fun k hk hm=>by simp at hk ⊢;omega) ?_
 have o:=fun k=>apV l m n k h
 rcases h with ⟨⟨rfl,rfl⟩,rfl⟩|⟨⟨rfl,rfl⟩,rfl⟩
 all_goals
  unfold c113
  simp -implicitDefEqProofs only [rX,↓rY,↓reduceIte,Nat.reduceEqDiff,Nat.reduceAdd,reduceCtorEq,Nat.reduceLeDiff,cxN,aO,yaf,yab,yak,yaE,reduceIte,Nat.reduceAdd,yal,Nat.reduceLeDiff,yaa,maxLen,yan,true_implies,Jk]
  repeat' first
   | with_reducible refine And.intro ?_ ?_
   | ((with_reducible show aR _ 68 _ _ _);refine aJ (Wj 4 3 (by decide) (by decide)) ?_ ?_ ?_ ?_;(focus simp [aE,aG,aL,a6,blk,wkL,wk,wkR,wkB,d0,d1,d2,d3,d4,d5,d6,d7,d8,d9,aQ,aP];done);(focus rfl);(focus simp [aD,aC];done))
   | ((with_reducible show aR _ 68 _ _ _);refine aJ (Wj 1 1 (by decide) (by decide)) ?_ ?_ ?_ ?_;(focus simp [aE,aG,aL,a6,blk,wkL,wk,wkR,wkB,d0,d1,d2,d3,d4,d5,d6,d7,d8,d9,aQ,aP];done);(focus rfl);(focus simp [aD,aC];done))
   | (refine bU [0] (o 3) ?_ rfl ?_ ?_ ?_ ?_;(focus simp;done);(focus simp [aE,aG,aL,a6,blk,wkL,wk,wkR,wkB,d0,d1,d2,d3,d4,d5,d6,d7,d8,d9,aQ,aP,pos];done);(focus simp;done);(focus simp [aN,bA,aD,aC];done))
   | (refine bU [0] (o 1) ?_ rfl ?_ ?_ ?_ ?_;(focus simp;done);(focus simp [aE,aG,aL,a6,blk,wkL,wk,wkR,wkB,d0,d1,d2,d3,d4,d5,d6,d7,d8,d9,aQ,aP,pos];done);(focus simp;done);(focus simp [aN,bA,aD,aC];done))
   | simp -implicitDefEqProofs only [rX,aA,↓reduceIte,Nat.reduceEqDiff,reduceCtorEq,aY,a7,leH,leB,aD,aC,wfB,wfV,wfL,ren,bZ,bA,aN,bC,yaf,reduceIte,yaa]
   | rfl
theorem r85 (l m:List (List V)) (n:Int) (h:lP l m n):OkN Tryz.prog 85 [.clo 114 [.ptr 0 0 0],.clo 87 []] [.var [.ro 2 l]] [] (IsA (.sl 7 0 l.length) (hA l m)):=by
 refine cO pol [0] lw85 (by simp) ⟨trivial,trivial⟩ (fun k hk hm=>by simp at hk ⊢;omega) ?_
 have o:=apX l m n h
 rcases h with ⟨⟨rfl,rfl⟩,rfl⟩|⟨⟨rfl,rfl⟩,rfl⟩
 all_goals
  unfold c85
  simp -implicitDefEqProofs only [rX,aA,↓reduceIte,Nat.reduceAdd,reduceCtorEq,cxN,aO,yab,reduceIte,Nat.reduceAdd,yaa]
  repeat' first
   | with_reducible refine And.intro ?_ ?_
   | ((with_reducible show aR _ 112 _ _ _);refine bU [0] (akM _ (.inl rfl)) ?_ rfl ?_ ?_ ?_ ?_;(focus simp;done);(focus simp [aE,aG,aL,a6,blk,wkL,wk,wkR,wkB,d0,d1,d2,d3,d4,d5,d6,d7,d8,d9,aQ,aP,pos];done);(focus simp;done);(focus simp [aN,bA,aD,aC];done))
   | ((with_reducible show aR _ 112 _ _ _);refine bU [0] (akM _ (.inr rfl)) ?_ rfl ?_ ?_ ?_ ?_;(focus simp;done);(focus simp [aE,aG,aL,a6,blk,wkL,wk,wkR,wkB,d0,d1,d2,d3,d4,d5,d6,d7,d8,d9,aQ,aP,pos];done);(focus simp;done);(focus simp [aN,bA,aD,aC];done))
   | (refine bU [7] (o) ?_ rfl ?_ ?_ ?_ ?_;(focus simp;done);(focus simp [aE,aG,aL,a6,blk,wkL,wk,wkR,wkB,d0,d1,d2,d3,d4,d5,d6,d7,d8,d9,aQ,aP,pos];done);(focus simp;done);(focus simp [aN,bA,aD,aC];done))
   | simp -implicitDefEqProofs only [rX,↓reduceIte,Nat.reduceEqDiff,Nat.reduceAdd,reduceCtorEq,aY,a7,leH,leB,leV,cI,aD,aC,wfB,wfV,wfL,Nat.reduceLeDiff,ren,bZ,bA,back,aN,yay,yad,yag,bC,yab,yak,reduceIte,Nat.reduceAdd,yal,Nat.reduceLeDiff,yaa]
   | rfl
theorem r50 (l m o:List (List V)) (n:Int) (h:((l=lA∧m=lB)∧n=4)∧o=[sp 0 2,sp 5 9]∨((l=lC∧m=lC)∧n=1)∧o=lC):Ok 50 [.ro 2 l] (Is (.ro 2 o)):=by
 refine vS (R:=fun q hs=>wk (.ro 2 o) (gvV (fun _=>true) hs q)) ?_ fun _ _ h=>h
 refine bO lw50 (by simp) ?_
 have q:=r85 l m n (h.elim (fun h=>.inl h.1) (fun h=>.inr h.1))
 rcases h with ⟨⟨⟨rfl,rfl⟩,rfl⟩,rfl⟩|⟨⟨⟨rfl,rfl⟩,rfl⟩,rfl⟩
 all_goals
  unfold c50 c50l0
  simp -implicitDefEqProofs only [rX,aA,↓reduceIte,reduceCtorEq,cxN,aO,reduceIte]
  repeat' first
   | with_reducible refine And.intro ?_ ?_
   | ((with_reducible show aR _ 86 _ _ _);refine bU [] (r86 lA) ?_ rfl ?_ ?_ ?_ ?_;(focus simp;done);(focus simp [aE,aG,aL,a6,blk,wkL,wk,wkR,wkB,d0,d1,d2,d3,d4,d5,d6,d7,d8,d9,aQ,aP,pos,cC];done);(focus simp;done);(focus simp [aN,bA,aD,aC];done))
   | ((with_reducible show aR _ 86 _ _ _);refine bU [] (r86 lC) ?_ rfl ?_ ?_ ?_ ?_;(focus simp;done);(focus simp [aE,aG,aL,a6,blk,wkL,wk,wkR,wkB,d0,d1,d2,d3,d4,d5,d6,d7,d8,d9,aQ,aP,pos,cC];done);(focus simp;done);(focus simp [aN,bA,aD,aC];done))
   | (refine bU [0] (q) ?_ rfl ?_ ?_ ?_ ?_;(focus simp;done);(focus simp [aE,aG,aL,a6,blk,wkL,wk,wkR,wkB,d0,d1,d2,d3,d4,d5,d6,d7,d8,d9,aQ,aP,pos,cC];done);(focus simp;done);(focus simp [aN,bA,aD,aC];done))
   | (refine bY [2,3,4,11,12,13] 9 ?_ ?_;(focus simp -implicitDefEqProofs only [rX,kY,↓reduceIte,Nat.reduceEqDiff,leE,leH,leB,leV,cI,aD,aC,wfE,wfB,wfV,wfL,yad,reduceIte];done))
   | (refine fG ?_ ?_;(focus simp -implicitDefEqProofs only [rX,kY,↓reduceIte,Nat.reduceEqDiff,leE,leH,leB,leV,cI,aD,aC,wfE,wfB,wfV,wfL,yad,reduceIte];done))
   | simp -implicitDefEqProofs only [rX,↓rY,kY,aA,cells?,splice,↓reduceIte,Nat.reduceEqDiff,dB,Nat.reduceAdd,reduceCtorEq,aF,bR,aY,a7,aD,aC,wfV,aM,aK,kill,bD,St.kill,isD,isC,Nat.reduceLT,Nat.reduceLeDiff,↓qaO,↓qaT,↓qbq,↓qbt,ren,bZ,bA,back,aN,aM,aK,kill,bD,yay,yad,yag,yaf,yah,yai,yab,yak,yav,yap,yam,decide_true,decide_false,yaG,reduceIte,Nat.reduceAdd,yal,Nat.reduceLeDiff,Nat.reduceLT,yaw,yaj,yae,yac,or_true,we,wg,lo,Fx.hi,yaa,yaq,yau,exists_prop,maxLen,yan,true_implies,isC,isD,yao,yar,yat,yas,cC]
   | rfl
  refine ⟨_,⟨aU _,by simp -implicitDefEqProofs only [rX,Nat.reduceAdd,wfB,wfV,wfL,Nat.reduceLeDiff,yad,yab,Nat.reduceAdd,Nat.reduceLeDiff,yaa]⟩,?_⟩
  simp [gvV,gvL,wk,wkL,wkR,blk,d0,d1,d2,d3,d4,d5,d6,d7,d8,d9,aQ,aP]
theorem akI:OkN Tryz.prog 125 [.nil,.clo 114 [.ptr 0 0 0]] [.var [.nil]] [] (IsA .nil [.var [.nil]]):=by
 refine cO pol [0] lw125 (by simp) ⟨trivial,trivial⟩ (fun k hk hm=>by simp at hk ⊢;omega) ?_
 unfold c125 c125a0 c125r0
 simp -implicitDefEqProofs only [rX,↓rY,aA,cells?,↓reduceIte,Nat.reduceEqDiff,Nat.reduceAdd,reduceCtorEq,aF,cxN,aO,yad,yag,yab,reduceIte,Nat.reduceAdd,yac,yaa]
 repeat' first
  | with_reducible refine And.intro ?_ ?_
  | (refine Ag _ rfl rfl trivial ?_;refine Ao pol _ lw114 ?_ ?_;(focus simp [bZ];done);unfold c114 c114l0)
  | refine ⟨rfl,Bg _ rfl rfl rfl ?_⟩
  | (refine bY [0,1,5,6,7] 9 ?_ ?_;(focus simp -implicitDefEqProofs only [rX,kY,↓reduceIte,Nat.reduceEqDiff,reduceCtorEq,leE,leH,leB,leV,cI,aD,aC,wfE,wfB,wfV,wfL,yad,reduceIte,or_true];done))
  | (refine fG ?_ ?_;(focus simp -implicitDefEqProofs only [rX,↓rY,rZ,↓rW,qg,qi,qk,ql,qm,qp,qq,qt,qw,qx,qy,qz,qA,qC,qD,qE,qF,qG,qH,qI,qO,rdK,zF,zI,zR,zW,zX,zY,zZ,ka,kg,kh,kj,kk,kp,kq,kv,kw,kF,kM,kN,kY,aA,cells?,splice,↓reduceIte,Nat.reduceEqDiff,dB,Nat.reduceAdd,reduceCtorEq,aF,bN,bJ,bR,aY,a7,leE,leH,leB,leV,cI,aD,aC,wfE,wfB,wfV,wfL,aM,aK,kill,bD,St.kill,isD,isC,Nat.reduceLT,Nat.reduceLeDiff,wZ,ja,jd,je,ji,jj,jn,jo,jt,ju,jz,jA,jE,jF,jJ,jK,jU,jV,jW,jX,jY,jZ,qaa,qab,qac,qad,qae,qaf,qag,qah,qai,qaj,qak,qal,qam,qan,qao,qap,qaq,qar,↓qau,↓qaN,↓qaO,↓qaS,↓qaT,↓qaX,↓qbe,↓qbf,↓qbl,↓qbm,↓qbo,↓qbp,↓qbq,↓qbt,↓qbu,↓qbx,↓qbz,↓qbB,↓qbC,↓qbD,↓qbH,↓qbI,↓qbK,↓qbL,↓qbM,↓qbN,↓qbQ,↓qbR,↓qbS,↓qbW,↓qbY,↓qcb,↓qcc,↓qcd,↓qce,↓qcf,↓qcg,↓qch,↓qci,↓qcj,↓qck,↓qcl,↓qcm,↓qcn,yaN,yaH,cxN,Fi,pI,uG,yaL,bP,dZ,uP,pE,lN,Gb,Ga,Fz,Fy,lQ,lO,pF,Gc,lR,lJ,lK,fD,Ft,dC,less,oK,gH,sT,x5,yW,nC,nQ,mQ,nD,uK,uJ,yM,fY,s9,gI,xR,yK,sJ,tD,eC,iR,Hh,Hk,mZ,nM,mR,nE,j8,nP,xW,yS,xV,yQ,mS,nF,xU,yP,sF,sZ,Hg,Hj,iQ,iT,sH,tC,xS,yL,sA,sW,mW,nJ,iP,iS,sB,sX,mT,nG,r9,sV,m9,nN,rV,sS,xP,yI,xO,yH,xN,yG,rU,sR,mU,nH,xQ,yJ,sM,tG,sN,tH,x8,yZ,rS,sP,xL,yE,xK,yD,xJ,x9,fX,sO,rT,sQ,Hf,Hi,sG,tA,xM,yF,xY,yU,xZ,yV,mX,nK,mV,nI,x6,yX,mY,nL,xX,yT,x7,yY,sE,sY,sL,tF,sK,tE,xT,yN,r8,sU,nA,nO,↓Au,fF,v6,o7,aO,ren,bZ,bA,back,pos,aN,aM,aK,kill,bD,yay,yad,yag,bC,yaf,yah,yai,yab,yak,yav,yaI,yap,yax,yaD,BEq.rfl,yam,yaE,yaF,yaB,yaO,ne_eq,decide_true,decide_false,yaz,yaG,reduceIte,Nat.reduceAdd,yal,Nat.reduceLeDiff,Nat.reduceLT,yaw,yaj,yae,yac,true_or,or_true,we,wg,cN,lo,Fx.hi,yaa,yaq,yau,yaA,yaP,exists_prop,maxLen,yan,true_implies,isC,isD,yao,yar,yat,yas,Dq,Hp,iJ,o4,tK,Cj,roF,Jk,rG,rH,Br,xC,Fv,l7,yaJ,yaK];done))
  | simp -implicitDefEqProofs only [rX,↓rY,rZ,↓rW,kY,aA,↓reduceIte,Nat.reduceEqDiff,Nat.reduceAdd,reduceCtorEq,aY,a7,leH,leB,leV,cI,aD,aC,wfE,wfB,wfV,wfL,Nat.reduceLT,↓qaT,aO,yad,yag,bC,yah,yab,decide_false,reduceIte,Nat.reduceAdd,Nat.reduceLT,yac,wg,yaa]
  | rfl
theorem akL:OkN Tryz.prog 112 [.clo 114 [.ptr 0 0 0]] [.var [.nil]] [] (IsA .nil [.var [.nil]]):=by
 refine cO pol [0] lw112 (by simp) ⟨trivial,trivial⟩ (fun k hk hm=>by simp at hk ⊢;omega) ?_
 unfold c112
 simp -implicitDefEqProofs only [rX,aA,↓reduceIte,reduceCtorEq,cxN,aO,reduceIte,yaa]
 repeat' first
  | with_reducible refine And.intro ?_ ?_
  | ((with_reducible show aR _ 125 _ _ _);refine bU [0] (akI) ?_ rfl ?_ ?_ ?_ ?_;(focus simp;done);(focus simp [aE,aG,aL,a6,blk,wkL,wk,wkR,wkB,d0,d1,d2,d3,d4,d5,d6,d7,d8,d9,aQ,aP,pos];done);(focus simp;done);(focus simp [aN,bA,aD,aC];done))
  | simp -implicitDefEqProofs only [rX,↓reduceIte,aY,a7,leH,leB,leV,cI,aD,aC,wfB,wfV,wfL,ren,bZ,bA,aN,bC,reduceIte,yaa]
  | rfl
theorem apC:Ok 86 [.nil] (IsA (.clo 114 [.ptr 0 0 0]) [.var [.nil]]):=by
 refine bO lw86 (by simp) ?_
 unfold c86
 simp -implicitDefEqProofs only [rX,↓rY,aA,cells?,↓reduceIte,Nat.reduceEqDiff,aF,aY,a7,leH,leB,leV,cI,aD,aC,wfB,wfV,wfL,Nat.reduceLeDiff,cxN,aO,bC,reduceIte,Nat.reduceLeDiff,yac,yaa]
theorem akN:Ok 110 [.nil,.i 0,.i 0,.clo 87 []] (Is (.tup [])):=by
 refine bO lw110 (by simp) ?_
 unfold c110 c110l0 c110l1
 simp -implicitDefEqProofs only [rX,↓rY,aA,↓reduceIte,Nat.reduceAdd,reduceCtorEq,cxN,aO,yai,yab,yam,reduceIte,Nat.reduceAdd,yac,lo,Fx.hi,yaa]
 repeat' first
  | with_reducible refine And.intro ?_ ?_
  | (refine bY [0,1,2,3,8,9] 9 ?_ ?_;(focus simp -implicitDefEqProofs only [rX,kY,↓reduceIte,Nat.reduceEqDiff,reduceCtorEq,leE,leH,aD,wfE,wfB,wfV,wfL,reduceIte];done))
  | (refine fG ?_ ?_;(focus simp -implicitDefEqProofs only [rX,↓rY,rZ,↓rW,qg,qi,qk,ql,qm,qp,qq,qt,qw,qx,qy,qz,qA,qC,qD,qE,qF,qG,qH,qI,qO,rdK,zF,zI,zR,zW,zX,zY,zZ,ka,kg,kh,kj,kk,kp,kq,kv,kw,kF,kM,kN,kY,aA,cells?,splice,↓reduceIte,Nat.reduceEqDiff,dB,Nat.reduceAdd,reduceCtorEq,aF,bN,bJ,bR,aY,a7,leE,leH,leB,leV,cI,aD,aC,wfE,wfB,wfV,wfL,aM,aK,kill,bD,St.kill,isD,isC,Nat.reduceLT,Nat.reduceLeDiff,wZ,ja,jd,je,ji,jj,jn,jo,jt,ju,jz,jA,jE,jF,jJ,jK,jU,jV,jW,jX,jY,jZ,qaa,qab,qac,qad,qae,qaf,qag,qah,qai,qaj,qak,qal,qam,qan,qao,qap,qaq,qar,↓qau,↓qaN,↓qaO,↓qaS,↓qaT,↓qaX,↓qbe,↓qbf,↓qbl,↓qbm,↓qbo,↓qbp,↓qbq,↓qbt,↓qbu,↓qbx,↓qbz,↓qbB,↓qbC,↓qbD,↓qbH,↓qbI,↓qbK,↓qbL,↓qbM,↓qbN,↓qbQ,↓qbR,↓qbS,↓qbW,↓qbY,↓qcb,↓qcc,↓qcd,↓qce,↓qcf,↓qcg,↓qch,↓qci,↓qcj,↓qck,↓qcl,↓qcm,↓qcn,yaN,yaH,cxN,Fi,pI,uG,yaL,bP,dZ,uP,pE,lN,Gb,Ga,Fz,Fy,lQ,lO,pF,Gc,lR,lJ,lK,fD,Ft,dC,less,oK,gH,sT,x5,yW,nC,nQ,mQ,nD,uK,uJ,yM,fY,s9,gI,xR,yK,sJ,tD,eC,iR,Hh,Hk,mZ,nM,mR,nE,j8,nP,xW,yS,xV,yQ,mS,nF,xU,yP,sF,sZ,Hg,Hj,iQ,iT,sH,tC,xS,yL,sA,sW,mW,nJ,iP,iS,sB,sX,mT,nG,r9,sV,m9,nN,rV,sS,xP,yI,xO,yH,xN,yG,rU,sR,mU,nH,xQ,yJ,sM,tG,sN,tH,x8,yZ,rS,sP,xL,yE,xK,yD,xJ,x9,fX,sO,rT,sQ,Hf,Hi,sG,tA,xM,yF,xY,yU,xZ,yV,mX,nK,mV,nI,x6,yX,mY,nL,xX,yT,x7,yY,sE,sY,sL,tF,sK,tE,xT,yN,r8,sU,nA,nO,↓Au,fF,v6,o7,aO,ren,bZ,bA,back,pos,aN,aM,aK,kill,bD,yay,yad,yag,bC,yaf,yah,yai,yab,yak,yav,yaI,yap,yax,yaD,BEq.rfl,yam,yaE,yaF,yaB,yaO,ne_eq,decide_true,decide_false,yaz,yaG,reduceIte,Nat.reduceAdd,yal,Nat.reduceLeDiff,Nat.reduceLT,yaw,yaj,yae,yac,true_or,or_true,we,wg,cN,lo,Fx.hi,yaa,yaq,yau,yaA,yaP,exists_prop,maxLen,yan,true_implies,isC,isD,yao,yar,yat,yas,Dq,Hp,iJ,o4,tK,Cj,roF,Jk,rG,rH,Br,xC,Fv,l7,yaJ,yaK];done))
  | simp -implicitDefEqProofs only [rX,↓rY,kY,↓reduceIte,Nat.reduceEqDiff,reduceCtorEq,aY,a7,wfV,wfL,Nat.reduceLT,yah,decide_false,reduceIte,Nat.reduceLT,wg]
  | rfl
theorem akH:Ok 126 [.nil,.i 0,.i 0,.i 0,.clo 87 []] (Is (.tup [])):=by
 refine bO lw126 (by simp) ?_
 unfold c126 c126l0
 simp -implicitDefEqProofs only [rX,aA,Nat.reduceAdd,cxN,aO,yab,Nat.reduceAdd,yaa]
 repeat' first
  | with_reducible refine And.intro ?_ ?_
  | (refine bY [0,1,2,3,4,10,11] 9 ?_ ?_;(focus simp -implicitDefEqProofs only [rX,kY,↓reduceIte,Nat.reduceEqDiff,reduceCtorEq,leE,leH,aD,wfE,wfB,wfV,wfL,reduceIte];done))
  | (refine fG ?_ ?_;(focus simp -implicitDefEqProofs only [rX,↓rY,rZ,↓rW,qg,qi,qk,ql,qm,qp,qq,qt,qw,qx,qy,qz,qA,qC,qD,qE,qF,qG,qH,qI,qO,rdK,zF,zI,zR,zW,zX,zY,zZ,ka,kg,kh,kj,kk,kp,kq,kv,kw,kF,kM,kN,kY,aA,cells?,splice,↓reduceIte,Nat.reduceEqDiff,dB,Nat.reduceAdd,reduceCtorEq,aF,bN,bJ,bR,aY,a7,leE,leH,leB,leV,cI,aD,aC,wfE,wfB,wfV,wfL,aM,aK,kill,bD,St.kill,isD,isC,Nat.reduceLT,Nat.reduceLeDiff,wZ,ja,jd,je,ji,jj,jn,jo,jt,ju,jz,jA,jE,jF,jJ,jK,jU,jV,jW,jX,jY,jZ,qaa,qab,qac,qad,qae,qaf,qag,qah,qai,qaj,qak,qal,qam,qan,qao,qap,qaq,qar,↓qau,↓qaN,↓qaO,↓qaS,↓qaT,↓qaX,↓qbe,↓qbf,↓qbl,↓qbm,↓qbo,↓qbp,↓qbq,↓qbt,↓qbu,↓qbx,↓qbz,↓qbB,↓qbC,↓qbD,↓qbH,↓qbI,↓qbK,↓qbL,↓qbM,↓qbN,↓qbQ,↓qbR,↓qbS,↓qbW,↓qbY,↓qcb,↓qcc,↓qcd,↓qce,↓qcf,↓qcg,↓qch,↓qci,↓qcj,↓qck,↓qcl,↓qcm,↓qcn,yaN,yaH,cxN,Fi,pI,uG,yaL,bP,dZ,uP,pE,lN,Gb,Ga,Fz,Fy,lQ,lO,pF,Gc,lR,lJ,lK,fD,Ft,dC,less,oK,gH,sT,x5,yW,nC,nQ,mQ,nD,uK,uJ,yM,fY,s9,gI,xR,yK,sJ,tD,eC,iR,Hh,Hk,mZ,nM,mR,nE,j8,nP,xW,yS,xV,yQ,mS,nF,xU,yP,sF,sZ,Hg,Hj,iQ,iT,sH,tC,xS,yL,sA,sW,mW,nJ,iP,iS,sB,sX,mT,nG,r9,sV,m9,nN,rV,sS,xP,yI,xO,yH,xN,yG,rU,sR,mU,nH,xQ,yJ,sM,tG,sN,tH,x8,yZ,rS,sP,xL,yE,xK,yD,xJ,x9,fX,sO,rT,sQ,Hf,Hi,sG,tA,xM,yF,xY,yU,xZ,yV,mX,nK,mV,nI,x6,yX,mY,nL,xX,yT,x7,yY,sE,sY,sL,tF,sK,tE,xT,yN,r8,sU,nA,nO,↓Au,fF,v6,o7,aO,ren,bZ,bA,back,pos,aN,aM,aK,kill,bD,yay,yad,yag,bC,yaf,yah,yai,yab,yak,yav,yaI,yap,yax,yaD,BEq.rfl,yam,yaE,yaF,yaB,yaO,ne_eq,decide_true,decide_false,yaz,yaG,reduceIte,Nat.reduceAdd,yal,Nat.reduceLeDiff,Nat.reduceLT,yaw,yaj,yae,yac,true_or,or_true,we,wg,cN,lo,Fx.hi,yaa,yaq,yau,yaA,yaP,exists_prop,maxLen,yan,true_implies,isC,isD,yao,yar,yat,yas,Dq,Hp,iJ,o4,tK,Cj,roF,Jk,rG,rH,Br,xC,Fv,l7,yaJ,yaK];done))
  | ((with_reducible show aR _ 110 _ _ _);refine aJ (akN) ?_ ?_ ?_ ?_;(focus simp [aE,aG,aL,a6,blk,wkL,wk,wkR,wkB,d0,d1,d2,d3,d4,d5,d6,d7,d8,d9,aQ,aP];done);(focus rfl);(focus simp [aD,aC];done))
  | simp -implicitDefEqProofs only [rX,↓rY,kY,aA,↓reduceIte,Nat.reduceEqDiff,reduceCtorEq,aY,a7,wfV,wfL,yai,BEq.rfl,yam,decide_true,reduceIte,yac,we,wg,lo,Fx.hi,yat,yas]
  | rfl
theorem akK:Ok 113 [.nil,.clo 87 []] (Is (.tup [])):=by
 refine bO lw113 (by simp) ?_
 unfold c113
 simp -implicitDefEqProofs only [rX,↓reduceIte,Nat.reduceEqDiff,reduceCtorEq,↓qaT,cxN,aO,yaE,reduceIte,yaa,Jk]
 repeat' first
  | with_reducible refine And.intro ?_ ?_
  | ((with_reducible show aR _ 68 _ _ _);refine aJ (Wj 0 0 (by decide) (by decide)) ?_ ?_ ?_ ?_;(focus simp [aE,aG,aL,a6,blk,wkL,wk,wkR,wkB,d0,d1,d2,d3,d4,d5,d6,d7,d8,d9,aQ,aP];done);(focus rfl);(focus simp [aD,aC];done))
  | ((with_reducible show aR _ 126 _ _ _);refine aJ (akH) ?_ ?_ ?_ ?_;(focus simp [aE,aG,aL,a6,blk,wkL,wk,wkR,wkB,d0,d1,d2,d3,d4,d5,d6,d7,d8,d9,aQ,aP];done);(focus rfl);(focus simp [aD,aC];done))
  | simp -implicitDefEqProofs only [rX,aA,↓reduceIte,Nat.reduceEqDiff,reduceCtorEq,aY,a7,wfV,wfL,yaf,reduceIte]
  | rfl
theorem apD:OkN Tryz.prog 85 [.clo 114 [.ptr 0 0 0],.clo 87 []] [.var [.nil]] [] (IsA .nil [.var [.nil]]):=by
 refine cO pol [0] lw85 (by simp) ⟨trivial,trivial⟩ (fun k hk hm=>by simp at hk ⊢;omega) ?_
 unfold c85
 simp -implicitDefEqProofs only [rX,aA,↓reduceIte,reduceCtorEq,cxN,aO,reduceIte,yaa]
 repeat' first
  | with_reducible refine And.intro ?_ ?_
  | ((with_reducible show aR _ 112 _ _ _);refine bU [0] (akL) ?_ rfl ?_ ?_ ?_ ?_;(focus simp;done);(focus simp [aE,aG,aL,a6,blk,wkL,wk,wkR,wkB,d0,d1,d2,d3,d4,d5,d6,d7,d8,d9,aQ,aP,pos];done);(focus simp;done);(focus simp [aN,bA,aD,aC];done))
  | ((with_reducible show aR _ 113 _ _ _);refine aJ (akK) ?_ ?_ ?_ ?_;(focus simp [aE,aG,aL,a6,blk,wkL,wk,wkR,wkB,d0,d1,d2,d3,d4,d5,d6,d7,d8,d9,aQ,aP];done);(focus rfl);(focus simp [aD,aC];done))
  | simp -implicitDefEqProofs only [rX,↓reduceIte,Nat.reduceEqDiff,reduceCtorEq,aY,a7,leH,leB,leV,cI,aD,aC,wfB,wfV,wfL,ren,bZ,bA,aN,bC,reduceIte,yaa]
  | rfl
theorem apK:Ok 50 [.nil] (Is .nil):=by
 refine bO lw50 (by simp) ?_
 unfold c50 c50l0
 simp -implicitDefEqProofs only [rX,aA,↓reduceIte,reduceCtorEq,cxN,aO,reduceIte]
 repeat' first
  | with_reducible refine And.intro ?_ ?_
  | ((with_reducible show aR _ 86 _ _ _);refine bU [] (apC) ?_ rfl ?_ ?_ ?_ ?_;(focus simp;done);(focus simp [aE,aG,aL,a6,blk,wkL,wk,wkR,wkB,d0,d1,d2,d3,d4,d5,d6,d7,d8,d9,aQ,aP,pos];done);(focus simp;done);(focus simp [aN,bA,aD,aC];done))
  | ((with_reducible show aR _ 85 _ _ _);refine bU [0] (apD) ?_ rfl ?_ ?_ ?_ ?_;(focus simp;done);(focus simp [aE,aG,aL,a6,blk,wkL,wk,wkR,wkB,d0,d1,d2,d3,d4,d5,d6,d7,d8,d9,aQ,aP,pos];done);(focus simp;done);(focus simp [aN,bA,aD,aC];done))
  | (refine bY [2,3,4,11,12,13] 9 ?_ ?_;(focus simp -implicitDefEqProofs only [rX,kY,↓reduceIte,Nat.reduceEqDiff,leE,leH,leB,leV,cI,aD,wfE,wfB,wfV,wfL,reduceIte];done))
  | (refine fG ?_ ?_;(focus simp -implicitDefEqProofs only [rX,↓rY,rZ,↓rW,qg,qi,qk,ql,qm,qp,qq,qt,qw,qx,qy,qz,qA,qC,qD,qE,qF,qG,qH,qI,qO,rdK,zF,zI,zR,zW,zX,zY,zZ,ka,kg,kh,kj,kk,kp,kq,kv,kw,kF,kM,kN,kY,aA,cells?,splice,↓reduceIte,Nat.reduceEqDiff,dB,Nat.reduceAdd,reduceCtorEq,aF,bN,bJ,bR,aY,a7,leE,leH,leB,leV,cI,aD,aC,wfE,wfB,wfV,wfL,aM,aK,kill,bD,St.kill,isD,isC,Nat.reduceLT,Nat.reduceLeDiff,wZ,ja,jd,je,ji,jj,jn,jo,jt,ju,jz,jA,jE,jF,jJ,jK,jU,jV,jW,jX,jY,jZ,qaa,qab,qac,qad,qae,qaf,qag,qah,qai,qaj,qak,qal,qam,qan,qao,qap,qaq,qar,↓qau,↓qaN,↓qaO,↓qaS,↓qaT,↓qaX,↓qbe,↓qbf,↓qbl,↓qbm,↓qbo,↓qbp,↓qbq,↓qbt,↓qbu,↓qbx,↓qbz,↓qbB,↓qbC,↓qbD,↓qbH,↓qbI,↓qbK,↓qbL,↓qbM,↓qbN,↓qbQ,↓qbR,↓qbS,↓qbW,↓qbY,↓qcb,↓qcc,↓qcd,↓qce,↓qcf,↓qcg,↓qch,↓qci,↓qcj,↓qck,↓qcl,↓qcm,↓qcn,yaN,yaH,cxN,Fi,pI,uG,yaL,bP,dZ,uP,pE,lN,Gb,Ga,Fz,Fy,lQ,lO,pF,Gc,lR,lJ,lK,fD,Ft,dC,less,oK,gH,sT,x5,yW,nC,nQ,mQ,nD,uK,uJ,yM,fY,s9,gI,xR,yK,sJ,tD,eC,iR,Hh,Hk,mZ,nM,mR,nE,j8,nP,xW,yS,xV,yQ,mS,nF,xU,yP,sF,sZ,Hg,Hj,iQ,iT,sH,tC,xS,yL,sA,sW,mW,nJ,iP,iS,sB,sX,mT,nG,r9,sV,m9,nN,rV,sS,xP,yI,xO,yH,xN,yG,rU,sR,mU,nH,xQ,yJ,sM,tG,sN,tH,x8,yZ,rS,sP,xL,yE,xK,yD,xJ,x9,fX,sO,rT,sQ,Hf,Hi,sG,tA,xM,yF,xY,yU,xZ,yV,mX,nK,mV,nI,x6,yX,mY,nL,xX,yT,x7,yY,sE,sY,sL,tF,sK,tE,xT,yN,r8,sU,nA,nO,↓Au,fF,v6,o7,aO,ren,bZ,bA,back,pos,aN,aM,aK,kill,bD,yay,yad,yag,bC,yaf,yah,yai,yab,yak,yav,yaI,yap,yax,yaD,BEq.rfl,yam,yaE,yaF,yaB,yaO,ne_eq,decide_true,decide_false,yaz,yaG,reduceIte,Nat.reduceAdd,yal,Nat.reduceLeDiff,Nat.reduceLT,yaw,yaj,yae,yac,true_or,or_true,we,wg,cN,lo,Fx.hi,yaa,yaq,yau,yaA,yaP,exists_prop,maxLen,yan,true_implies,isC,isD,yao,yar,yat,yas,Dq,Hp,iJ,o4,tK,Cj,roF,Jk,rG,rH,Br,xC,Fv,l7,yaJ,yaK];done))
  | simp -implicitDefEqProofs only [rX,↓rY,kY,aA,↓reduceIte,Nat.reduceEqDiff,aY,a7,wfV,Nat.reduceLT,↓qaT,ren,bZ,bA,back,aN,yay,yah,decide_false,reduceIte,Nat.reduceLT,wg,yaa,yat,yas]
  | rfl
end Go.Fx.Q
namespace Go.Fx.Q
open Go Go.Fx Go.Fx.K Go.Proofs Go.Fx.R
set_option maxRecDepth 20000
set_option maxHeartbeats 1000000 in
theorem amE (n:Nat) (h0:0<n) (hn:n≤4398046511104) (w:World):Calls Tryz.prog 88 #[.slice none 0 0,.int .i64 n] w fun e w'=>∃ G row,n≤G∧G≤9223372036854775807∧row.size=G*2∧e=.returned (.slice (some ⟨w.heap.size,0,none⟩) 0 G)∧w'=w.drew.alloc (.cells row 55):=by
 have hi0:Tryz.prog.info? 55=some Tryz.t55:=by kernel_rfl
 have hz0:Tryz.t55.zero=some (.agg #[.int .i64 0,.int .i64 0]):=by kernel_rfl
 have hs:Tryz.t55.size=2:=by kernel_rfl
 have hb:Tryz.t55.bytes=16:=by kernel_rfl
 have hold:(Builtin.firstCells Tryz.t55.size 0 (.slice none 0 0)).run Tryz.prog w.drew=.ok ([]:List Value).toArray w.drew:=run_firstCells_none w.drew _ 0 0 0
 have hrz:∀ ty,_:=fun ty=>Lib.run_append_grow_zeros w 58 3 ty 55 Tryz.t55 _ .i64 .i64 Tryz.underlying58 Tryz.underlying3 hi0 hz0 none 0 0 [] hold n (by omega) (by omega) (by omega) (by omega) (by rw [hb];omega) (by rw [hb];exact growslice_fits (by omega) (by omega))
 simp only [Nat.zero_add] at hrz
 obtain ⟨G,hG⟩:∃ G,G=grownCap w n 0 55:=⟨_,rfl⟩
 have hGn:n≤G:=by rw [hG];exact grownCap_ge w _ _ _
 have hG63:G≤9223372036854775807:=by
  have:=grownCap_le_maxLen w n 0 55 (by unfold maxLen;omega)
  rw [←hG] at this
  unfold maxLen at this
  omega
 rw [←hG] at hrz
 generalize hrow:(([]:List Value).toArray++Builtin.zeroCells (Value.agg #[Value.int .i64 0,Value.int .i64 0]).cells n++Builtin.zeroCells (Value.agg #[Value.int .i64 0,Value.int .i64 0]).cells (G-n))=row at hrz
 have hsz:row.size=G*2:=by
  rw [←hrow]
  simp [Builtin.zeroCells,Value.cells]
  omega
 clear hold hG hrow
 have h1:¬((n:Int)<0):=by omega
 have h4:(n:Int)-(0-0)>0:=by omega
 have e4:(n:Int)-(0-0)=n:=by omega
 go_enter Tryz.func88,Tryz.ntmps88
 go_wp2_with (at_builtin;refine Lib.wpList_append_run _ rfl _ _ _ _ rfl _ _ rfl rfl _ _ (hrz _) ?_)
 all_goals (go_ret;exact ⟨G,hGn,hG63,row,hsz,rfl,rfl⟩)
theorem akT (n:Nat) (hp:0<n) (hn:n≤4398046511104):Ok 88 [.nil,.i n] (IsA (.sl 0 0 0) [.arr 2 []]):=by
 refine ⟨⟨_,Tryz.func88,rfl,rfl⟩,?_⟩
 intro ρ X w vals hr ha
 match vals,ha with
 | [v0,v1],⟨h0,h1,_⟩ =>
 have h0':v0=.slice none 0 0:=h0
 have h1':v1=.int .i64 n:=h1
 subst h0' h1'
 have hno:∀ k,(ρ k).real=false:=fun k=>hr.out k (yaR _)
 have hown:∀ b,¬Own ρ b:=by
  rintro b ⟨k,hk,_⟩
  rw [hno k] at hk;cases hk
 refine (amE n hp hn w).mono ?_
 rintro e w' ⟨G,row,g1,g2,g3,rfl,rfl⟩
 have hsize:(w.drew.alloc (.cells row 55)).heap.size=w.heap.size+1:=Array.size_push ..
 have hold:∀ b,b<w.heap.size→(w.drew.alloc (.cells row 55)).heap[b]?=w.heap[b]?:=by
  intro b hb
  simp only [World.alloc,World.drew]
  rw [Array.getElem?_push_lt (by simpa using hb),Array.getElem?_eq_getElem (by simpa using hb)]
 have hnew:(w.drew.alloc (.cells row 55)).heap[w.heap.size]?=some (.cells row 55 (0,0)):=by
  simp only [World.alloc,World.drew]
  simp
 let L0:Loc:={ ρ 0 with real:=true,blk:=w.heap.size,off:=0,sz:=2,room:=G*2 }
 have hloc:∀ k,(if k=0 then L0 else ρ k:Loc).real=true→k=0:=by
  intro k hk
  by_cases h:k=0
  ·exact h
  ·rw [if_neg h,hno k] at hk;cases hk
 have hfr:Fr ρ w (fun k=>if k=0 then L0 else ρ k) (w.drew.alloc (.cells row 55)):=by
  refine ⟨rfl,rfl,rfl,by omega,fun b hb ho=>⟨hold b hb,?_⟩⟩
  rintro ⟨k,hk,hb2⟩
  have:=hloc k hk
  subst this
  simp only [if_pos] at hb2
  have:w.heap.size=b:=hb2
  omega
 refine ⟨_,.sl 0 0 0,[.arr 2 []],fun k=>if k=0 then L0 else ρ k,rfl,⟨⟨rfl,rfl⟩,yaR _⟩,hfr,⟨fun j k hjk h1 h2=>?_,fun k hk=>?_,fun k b hb=>?_,?_,fun k h=>?_,hr.xfr hfr⟩,⟨G,yaR _,by unfold maxLen;omega,.inr ⟨rfl,by simp [L0],by simp [L0]⟩⟩,fun k hk=>absurd hk (yaM _)⟩
 ·exact absurd ((hloc j h1).trans (hloc k h2).symm) hjk
 ·have:k≠0:=by simp at hk;omega
  simp only [if_neg this]
  exact hno k
 ·cases k with
  | succ k=>simp at hb
  | zero =>
   simp only [yaY,Option.some.injEq] at hb
   subst hb
   exact ⟨⟨rfl,by decide⟩,.inr ⟨rfl,row,55,hnew,g3,by simp [L0],trivial⟩⟩
 ·rintro b ⟨k,hk,hb2⟩ hX
  have:=hloc k hk
  subst this
  simp only [if_pos] at hb2
  have h3:w.heap.size=b:=hb2
  have:=hr.xlt.1 b hX
  omega
 ·have:=hloc k h
  subst this
  show w.heap.size<_
  omega
theorem r51 (a b:List (List V)) (h:a=[sp 0 2,sp 5 6,sp 8 9]∧b=[sp 6 8]∨a=lC∧b=[sp 0 10]):Ok 51 [.bro 1 [[.ro 2 a],[.ro 2 b]]] (IsA (.sl 0 0 (a++b).length) [.arr 2 (a++b)]):=by
 refine bO lw51 (by simp) ?_
 rcases h with ⟨rfl,rfl⟩|⟨rfl,rfl⟩
 all_goals
  unfold c51 c51l0 c51l1
  simp -implicitDefEqProofs only [rX,↓rY,aA,↓reduceIte,Nat.reduceAdd,reduceCtorEq,Nat.reduceLeDiff,cxN,aO,yaf,yab,yak,reduceIte,Nat.reduceAdd,yal,Nat.reduceLeDiff,yaa,maxLen,yan,true_implies]
  repeat' first
   | with_reducible refine And.intro ?_ ?_
   | (refine bY [0,2,3,6,9,10,11,25,26,27] 9 ?_ ?_;(focus simp -implicitDefEqProofs only [rX,kY,↓reduceIte,Nat.reduceEqDiff,reduceCtorEq,leE,leH,leB,aD,aC,wfE,wfB,wfV,reduceIte];done))
   | (refine fG ?_ ?_;(focus simp -implicitDefEqProofs only [rX,kY,↓reduceIte,Nat.reduceEqDiff,reduceCtorEq,leE,leH,leB,aD,aC,wfE,wfB,wfV,reduceIte];done))
   | ((with_reducible show aR _ 88 _ _ _);refine bU [] (akT 4 (by decide) (by decide)) ?_ rfl ?_ ?_ ?_ ?_;(focus simp;done);(focus simp [aE,aG,aL,a6,blk,wkL,wk,wkR,wkB,d0,d1,d2,d3,d4,d5,d6,d7,d8,d9,aQ,aP,pos];done);(focus simp;done);(focus simp [aN,bA,aD,aC];done))
   | ((with_reducible show aR _ 88 _ _ _);refine bU [] (akT 2 (by decide) (by decide)) ?_ rfl ?_ ?_ ?_ ?_;(focus simp;done);(focus simp [aE,aG,aL,a6,blk,wkL,wk,wkR,wkB,d0,d1,d2,d3,d4,d5,d6,d7,d8,d9,aQ,aP,pos];done);(focus simp;done);(focus simp [aN,bA,aD,aC];done))
   | simp -implicitDefEqProofs only [rX,↓rY,kY,aA,↓reduceIte,Nat.reduceEqDiff,Nat.reduceAdd,reduceCtorEq,aY,a7,leH,leB,aD,aC,wfB,wfV,aM,aK,kill,St.kill,Nat.reduceLT,Nat.reduceLeDiff,ren,bA,back,aN,aM,aK,kill,yay,bC,yaf,yah,yai,yab,yak,yav,yam,decide_true,decide_false,reduceIte,Nat.reduceAdd,yal,Nat.reduceLeDiff,Nat.reduceLT,yaw,yae,yac,or_true,we,wg,lo,Fx.hi,yaa,yaq,yau,exists_prop,maxLen,yan,true_implies,yao,yar,yat,yas]
   | rfl
end Go.Fx.Q
namespace Go.Fx.Q
open Go Go.Fx Go.Fx.K Go.Proofs Go.Fx.R
set_option maxRecDepth 20000
theorem r83 (a b:Int) (h:(0≤a∧a<b)∧b≤1099511627776):Ok 83 [.agg (sp a b)] (Is (.b true)):=by
 refine bO lw83 (by simp) ?_
 unfold c83
 have h1:decide (a≥0)=true:=decide_eq_true h.1.1
 have h2:decide (a<b)=true:=decide_eq_true h.1.2
 have h3:decide (b≤1099511627776)=true:=decide_eq_true h.2
 simp -implicitDefEqProofs only [rX,↓rY,aA,cells?,↓reduceIte,Nat.reduceEqDiff,aF,aY,a7,wfV,cxN,aO,yad,reduceIte,yac,we,wg,yaa,h1,h2,h3]
abbrev lM:List (List V):=[sp 0 2,sp 5 6,sp 8 9]
theorem r47 (l:List (List V)) (h:l=lM∨l=[sp 0 10]):Ok 47 [.bro 2 l] (Is (.b true)):=by
 refine bO lw47 (by simp) ?_
 rcases h with rfl|rfl
 all_goals
  unfold c47 c47l0
  simp -implicitDefEqProofs only [rX,↓rY,aA,↓reduceIte,Nat.reduceAdd,reduceCtorEq,Nat.reduceLeDiff,cxN,aO,yaf,yab,yak,yam,reduceIte,Nat.reduceAdd,yal,Nat.reduceLeDiff,yaa,maxLen,yan,true_implies]
  repeat' first
   | with_reducible refine And.intro ?_ ?_
   | (refine bY [0,2,3,6,7,8] 9 ?_ ?_;(focus simp -implicitDefEqProofs only [rX,kY,↓reduceIte,Nat.reduceEqDiff,reduceCtorEq,leE,leH,aD,wfE,wfB,wfV,yam,reduceIte];done))
   | (refine fG ?_ ?_;(focus simp -implicitDefEqProofs only [rX,kY,↓reduceIte,Nat.reduceEqDiff,reduceCtorEq,leE,leH,leB,leV,cI,aD,wfE,wfB,wfV,wfL,yam,reduceIte];done))
   | ((with_reducible show aR _ 83 _ _ _);refine aJ (r83 0 2 (by decide)) ?_ ?_ ?_ ?_;(focus simp [aE,aG,aL,a6,blk,wkL,wk,wkR,wkB,d0,d1,d2,d3,d4,d5,d6,d7,d8,d9,aQ,aP];done);(focus rfl);(focus simp [aD,aC];done))
   | ((with_reducible show aR _ 83 _ _ _);refine aJ (r83 5 6 (by decide)) ?_ ?_ ?_ ?_;(focus simp [aE,aG,aL,a6,blk,wkL,wk,wkR,wkB,d0,d1,d2,d3,d4,d5,d6,d7,d8,d9,aQ,aP];done);(focus rfl);(focus simp [aD,aC];done))
   | ((with_reducible show aR _ 83 _ _ _);refine aJ (r83 8 9 (by decide)) ?_ ?_ ?_ ?_;(focus simp [aE,aG,aL,a6,blk,wkL,wk,wkR,wkB,d0,d1,d2,d3,d4,d5,d6,d7,d8,d9,aQ,aP];done);(focus rfl);(focus simp [aD,aC];done))
   | ((with_reducible show aR _ 83 _ _ _);refine aJ (r83 0 10 (by decide)) ?_ ?_ ?_ ?_;(focus simp [aE,aG,aL,a6,blk,wkL,wk,wkR,wkB,d0,d1,d2,d3,d4,d5,d6,d7,d8,d9,aQ,aP];done);(focus rfl);(focus simp [aD,aC];done))
   | simp -implicitDefEqProofs only [rX,↓rY,kY,aA,cells?,splice,↓reduceIte,Nat.reduceEqDiff,Nat.reduceAdd,reduceCtorEq,aF,aY,a7,wfV,isC,Nat.reduceLT,yad,yag,yaf,yah,yai,yab,yap,yam,decide_true,decide_false,reduceIte,Nat.reduceAdd,Nat.reduceLT,yaj,yae,yac,we,wg,lo,Fx.hi,yaa,yaq,yau,exists_prop,isC,yao,yar]
   | rfl
theorem r49:Ok 49 [.agg (sp 6 8),.agg (sp 2 5)] (Is (.i (-1))):=by
 refine bO lw49 (by simp) ?_
 unfold c49
 simp -implicitDefEqProofs only [rX,↓rY,aA,cells?,↓reduceIte,Nat.reduceEqDiff,Nat.reduceAdd,reduceCtorEq,aF,aY,a7,wfV,cxN,aO,yad,yag,yai,yab,yak,yam,reduceIte,Nat.reduceAdd,yal,yac,lo,Fx.hi,yaa]
theorem akO:OkN Tryz.prog 110 [.sl 0 0 2,.i 0,.i 2,.clo 49 []] [.arr 2 [sp 2 5,sp 6 8]] [] (IsA (.tup []) [.arr 2 [sp 6 8,sp 2 5]]):=by
 refine cO pol [0] lw110 (by simp) ⟨trivial,trivial⟩ (fun k hk hm=>by simp at hk ⊢;omega) ?_
 unfold c110 c110l0 c110l1
 simp -implicitDefEqProofs only [rX,↓rY,aA,↓reduceIte,Nat.reduceAdd,reduceCtorEq,cxN,aO,yai,yab,yam,reduceIte,Nat.reduceAdd,yac,lo,Fx.hi,yaa]
 repeat' first
  | with_reducible refine And.intro ?_ ?_
  | (refine bY [0,1,2,3,8,9] 9 ?_ ?_;(focus simp -implicitDefEqProofs only [rX,kY,↓reduceIte,Nat.reduceEqDiff,reduceCtorEq,leE,leH,leB,aD,aC,wfE,wfB,wfV,wfL,reduceIte];done))
  | (refine fG ?_ ?_;(focus simp -implicitDefEqProofs only [rX,kY,↓reduceIte,Nat.reduceEqDiff,reduceCtorEq,leE,leH,leB,aD,aC,wfE,wfB,wfV,wfL,yam,reduceIte];done))
  | ((with_reducible show aR _ 49 _ _ _);refine aJ (r49) ?_ ?_ ?_ ?_;(focus simp [aE,aG,aL,a6,blk,wkL,wk,wkR,wkB,d0,d1,d2,d3,d4,d5,d6,d7,d8,d9,aQ,aP];done);(focus rfl);(focus simp [aD,aC];done))
  | simp -implicitDefEqProofs only [rX,↓rY,rdK,kY,aA,cells?,splice,↓reduceIte,Nat.reduceEqDiff,dB,Nat.reduceAdd,reduceCtorEq,aY,a7,leH,leB,aD,aC,wfB,wfV,wfL,isD,isC,Nat.reduceLT,yag,bC,yaf,yah,yai,yab,yak,yam,decide_true,decide_false,reduceIte,Nat.reduceAdd,yal,Nat.reduceLT,yaj,yae,yac,we,wg,lo,Fx.hi,yaa,yaq,yau,exists_prop,isC,isD,yao,yar]
  | rfl
theorem r84:OkN Tryz.prog 84 [.sl 0 0 2,.i 2,.clo 49 []] [.arr 2 [sp 2 5,sp 6 8]] [] (IsA (.tup []) [.arr 2 [sp 6 8,sp 2 5]]):=by
 refine cO pol [0] lw84 (by simp) ⟨trivial,trivial⟩ (fun k hk hm=>by simp at hk ⊢;omega) ?_
 unfold c84 c84l0 c84l1 c84l2
 simp -implicitDefEqProofs only [rX,aA,↓reduceIte,Nat.reduceEqDiff,Nat.reduceAdd,cxN,aO,yab,reduceIte,Nat.reduceAdd,yaa]
 repeat' first
  | with_reducible refine And.intro ?_ ?_
  | (refine bY [0,1,2,6,7,8] 9 ?_ ?_;(focus simp -implicitDefEqProofs only [rX,kY,↓reduceIte,Nat.reduceEqDiff,reduceCtorEq,leE,leH,leB,aD,aC,wfE,wfB,wfV,wfL,reduceIte];done))
  | (refine fG ?_ ?_;(focus simp -implicitDefEqProofs only [rX,↓rY,rZ,↓rW,qg,qi,qk,ql,qm,qp,qq,qt,qw,qx,qy,qz,qA,qC,qD,qE,qF,qG,qH,qI,qO,rdK,zF,zI,zR,zW,zX,zY,zZ,ka,kg,kh,kj,kk,kp,kq,kv,kw,kF,kM,kN,kY,aA,cells?,splice,↓reduceIte,Nat.reduceEqDiff,dB,Nat.reduceAdd,reduceCtorEq,aF,bN,bJ,bR,aY,a7,leE,leH,leB,leV,cI,aD,aC,wfE,wfB,wfV,wfL,aM,aK,kill,bD,St.kill,isD,isC,Nat.reduceLT,Nat.reduceLeDiff,wZ,ja,jd,je,ji,jj,jn,jo,jt,ju,jz,jA,jE,jF,jJ,jK,jU,jV,jW,jX,jY,jZ,qaa,qab,qac,qad,qae,qaf,qag,qah,qai,qaj,qak,qal,qam,qan,qao,qap,qaq,qar,↓qau,↓qaN,↓qaO,↓qaS,↓qaT,↓qaX,↓qbe,↓qbf,↓qbl,↓qbm,↓qbo,↓qbp,↓qbq,↓qbt,↓qbu,↓qbx,↓qbz,↓qbB,↓qbC,↓qbD,↓qbH,↓qbI,↓qbK,↓qbL,↓qbM,↓qbN,↓qbQ,↓qbR,↓qbS,↓qbW,↓qbY,↓qcb,↓qcc,↓qcd,↓qce,↓qcf,↓qcg,↓qch,↓qci,↓qcj,↓qck,↓qcl,↓qcm,↓qcn,yaN,yaH,cxN,Fi,pI,uG,yaL,bP,dZ,uP,pE,lN,Gb,Ga,Fz,Fy,lQ,lO,pF,Gc,lR,lJ,lK,fD,Ft,dC,less,oK,gH,sT,x5,yW,nC,nQ,mQ,nD,uK,uJ,yM,fY,s9,gI,xR,yK,sJ,tD,eC,iR,Hh,Hk,mZ,nM,mR,nE,j8,nP,xW,yS,xV,yQ,mS,nF,xU,yP,sF,sZ,Hg,Hj,iQ,iT,sH,tC,xS,yL,sA,sW,mW,nJ,iP,iS,sB,sX,mT,nG,r9,sV,m9,nN,rV,sS,xP,yI,xO,yH,xN,yG,rU,sR,mU,nH,xQ,yJ,sM,tG,sN,tH,x8,yZ,rS,sP,xL,yE,xK,yD,xJ,x9,fX,sO,rT,sQ,Hf,Hi,sG,tA,xM,yF,xY,yU,xZ,yV,mX,nK,mV,nI,x6,yX,mY,nL,xX,yT,x7,yY,sE,sY,sL,tF,sK,tE,xT,yN,r8,sU,nA,nO,↓Au,fF,v6,o7,aO,ren,bZ,bA,back,pos,aN,aM,aK,kill,bD,yay,yad,yag,bC,yaf,yah,yai,yab,yak,yav,yaI,yap,yax,yaD,BEq.rfl,yam,yaE,yaF,yaB,yaO,ne_eq,decide_true,decide_false,yaz,yaG,reduceIte,Nat.reduceAdd,yal,Nat.reduceLeDiff,Nat.reduceLT,yaw,yaj,yae,yac,true_or,or_true,we,wg,cN,lo,Fx.hi,yaa,yaq,yau,yaA,yaP,exists_prop,maxLen,yan,true_implies,isC,isD,yao,yar,yat,yas,Dq,Hp,iJ,o4,tK,Cj,roF,Jk,rG,rH,Br,xC,Fv,l7,yaJ,yaK];done))
  | ((with_reducible show aR _ 110 _ _ _);refine bU [0] (akO) ?_ rfl ?_ ?_ ?_ ?_;(focus simp;done);(focus simp [aE,aG,aL,a6,blk,wkL,wk,wkR,wkB,d0,d1,d2,d3,d4,d5,d6,d7,d8,d9,aQ,aP,pos];done);(focus simp;done);(focus simp [aN,bA,aD,aC];done))
  | simp -implicitDefEqProofs only [rX,↓rY,kY,↓reduceIte,Nat.reduceEqDiff,reduceCtorEq,aY,a7,leH,leB,aD,aC,wfB,wfV,wfL,Nat.reduceLT,ren,bZ,bA,aN,bC,yah,yai,decide_false,reduceIte,Nat.reduceLT,yac,wg,yaa]
  | rfl
theorem r48:OkN Tryz.prog 48 [.sl 0 0 2,.clo 49 []] [.arr 2 [sp 2 5,sp 6 8]] [] (IsA (.tup []) [.arr 2 [sp 6 8,sp 2 5]]):=by
 refine cO pol [0] lw48 (by simp) ⟨trivial,trivial⟩ (fun k hk hm=>by simp at hk ⊢;omega) ?_
 unfold c48
 simp -implicitDefEqProofs only [rX,↓rY,↓reduceIte,Nat.reduceEqDiff,reduceCtorEq,Nat.reduceLeDiff,cxN,aO,yaf,yak,reduceIte,yal,Nat.reduceLeDiff,yaa,maxLen,yan,true_implies]
 repeat' first
  | with_reducible refine And.intro ?_ ?_
  | ((with_reducible show aR _ 84 _ _ _);refine bU [0] (r84) ?_ rfl ?_ ?_ ?_ ?_;(focus simp;done);(focus simp [aE,aG,aL,a6,blk,wkL,wk,wkR,wkB,d0,d1,d2,d3,d4,d5,d6,d7,d8,d9,aQ,aP,pos];done);(focus simp;done);(focus simp [aN,bA,aD,aC];done))
  | simp -implicitDefEqProofs only [rX,aY,a7,leH,leB,aD,aC,wfB,wfV,wfL,ren,bZ,bA,aN,bC,yaa]
  | rfl
theorem apL:OkN Tryz.prog 50 [.sl 0 0 4] [.arr 2 lA] [0] (IsA (.ro 2 [sp 0 2,sp 5 9]) [.dead]) :=
 Kb (xs:=[.sl 0 0 4]) (h0:=[.arr 2 lA]) (r50 _ _ _ _ (.inl ⟨⟨⟨rfl,rfl⟩,rfl⟩,rfl⟩)) (by simp [gvL,gvV,wkL,wk,wkR,blk])
theorem r18:Ok 18 [.ro 2 lM,.i 2] (Is (.tup [.ro 2 [sp 0 2,sp 5 9],.i 0])):=by
 refine bO lw18 (by simp) ?_
 unfold c18 c18l0
 simp -implicitDefEqProofs only [rX,aA,↓reduceIte,reduceCtorEq,cxN,aO,reduceIte,yaa]
 repeat' first
  | with_reducible refine And.intro ?_ ?_
  | ((with_reducible show aR _ 47 _ _ _);refine aJ (r47 _ (.inl rfl)) ?_ ?_ ?_ ?_;(focus simp [aE,aG,aL,a6,blk,wkL,wk,wkR,wkB,d0,d1,d2,d3,d4,d5,d6,d7,d8,d9,aQ,aP,fM,mM,mN,mK,mO,mL,pW,gK,oH,lI];done);(focus rfl);(focus simp [aD,aC];done))
  | (refine bY [0,1,4,5,6,7] 9 ?_ ?_;(focus simp -implicitDefEqProofs only [rX,kY,↓reduceIte,Nat.reduceEqDiff,reduceCtorEq,leE,leH,aD,wfE,wfB,wfV,reduceIte];done))
  | (refine fG ?_ ?_;(focus simp -implicitDefEqProofs only [rX,kY,↓reduceIte,Nat.reduceEqDiff,reduceCtorEq,leE,leH,leB,aD,aC,wfE,wfB,wfV,yad,reduceIte];done))
  | ((with_reducible show aR _ 48 _ _ _);refine bU [1] (r48) ?_ rfl ?_ ?_ ?_ ?_;(focus simp;done);(focus simp [aE,aG,aL,a6,blk,wkL,wk,wkR,wkB,d0,d1,d2,d3,d4,d5,d6,d7,d8,d9,aQ,aP,pos,fM,mM,mN,mK,mO,mL,pW,gK,oH,lI];done);(focus simp;done);(focus simp [aN,bA,aD,aC];done))
  | ((with_reducible show aR _ 51 _ _ _);refine bU [] (r51 _ _ (.inl ⟨rfl,rfl⟩)) ?_ rfl ?_ ?_ ?_ ?_;(focus simp;done);(focus simp [aE,aG,aL,a6,blk,wkL,wk,wkR,wkB,d0,d1,d2,d3,d4,d5,d6,d7,d8,d9,aQ,aP,pos,fM,mM,mN,mK,mO,mL,pW,gK,oH,lI];done);(focus simp;done);(focus simp [aN,bA,aD,aC];done))
  | ((with_reducible show aR _ 50 _ _ _);refine Gl 5 (apL) ?_ ?_ rfl ?_ ?_ ?_;(focus simp;done);(focus simp;done);(focus simp [aE,aG,aL,a6,blk,wkL,wk,wkR,wkB,d0,d1,d2,d3,d4,d5,d6,d7,d8,d9,aQ,aP,pos,fM,mM,mN,mK,mO,mL,pW,gK,oH,lI];done);(focus simp [aK,aD,aC];done))
  | simp -implicitDefEqProofs only [rX,↓rY,rdK,kY,aA,cells?,splice,↓reduceIte,Nat.reduceEqDiff,dB,Nat.reduceAdd,reduceCtorEq,aF,bN,bJ,bR,aY,a7,wfV,wfL,aM,aK,kill,bD,St.kill,isD,Nat.reduceLT,Nat.reduceLeDiff,↓qbq,↓qbt,ren,bZ,bA,back,aN,aM,aK,kill,bD,yay,yad,yag,yaf,yah,yai,yab,yak,yav,yap,yam,decide_true,decide_false,yaz,yaG,reduceIte,Nat.reduceAdd,yal,Nat.reduceLeDiff,Nat.reduceLT,yaw,yaj,yae,yac,or_true,we,wg,lo,Fx.hi,yaa,yaq,yau,exists_prop,maxLen,yan,true_implies,isD,yao,yar,yat,yas,fM,mM,mN,mK,mO,mL,pW,gK,oH,lI]
  | rfl
theorem r52 (a b:List (List V)) (h:(a=[sp 0 2,sp 5 9]∨a=lC)∧b=a):Ok 52 [.bro 2 a,.bro 2 b] (Is (.b true)):=by
 refine bO lw52 (by simp) ?_
 obtain ⟨rfl|rfl,rfl⟩:=h
 all_goals
  unfold c52 c52l0
  simp -implicitDefEqProofs only [rX,↓rY,aA,↓reduceIte,Nat.reduceEqDiff,Nat.reduceAdd,reduceCtorEq,Nat.reduceLeDiff,cxN,aO,yaf,yab,yak,yaD,reduceIte,Nat.reduceAdd,yal,Nat.reduceLeDiff,yac,wg,yaa,maxLen,yan,true_implies]
  repeat' first
   | with_reducible refine And.intro ?_ ?_
   | (refine bY [0,1,4,5] 9 ?_ ?_;(focus simp -implicitDefEqProofs only [rX,kY,↓reduceIte,Nat.reduceEqDiff,reduceCtorEq,leE,leH,aD,wfE,wfB,wfV,reduceIte];done))
   | (refine fG ?_ ?_;(focus simp -implicitDefEqProofs only [rX,kY,↓reduceIte,Nat.reduceEqDiff,reduceCtorEq,leE,leH,aD,wfE,wfB,wfV,reduceIte];done))
   | simp -implicitDefEqProofs only [rX,↓rY,kY,aA,↓reduceIte,Nat.reduceEqDiff,Nat.reduceAdd,reduceCtorEq,aY,a7,wfV,Nat.reduceLT,Nat.reduceLeDiff,yad,yaf,yah,yai,yab,yak,BEq.rfl,yam,decide_true,decide_false,reduceIte,Nat.reduceAdd,yal,Nat.reduceLeDiff,Nat.reduceLT,yae,yac,we,wg,lo,Fx.hi,yaa,yaq,yau,exists_prop,maxLen,yan,true_implies,yao,yar,rG,rH,xC,l7]
   | rfl
theorem r19 (a b:List (List V)) (h:(a=[sp 0 2,sp 5 9]∨a=lC)∧b=a):Ok 19 [.bro 2 a,.bro 2 b] (Is (.b true)):=by
 refine bO lw19 (by simp) ?_
 have o:=r52 a b h
 obtain ⟨rfl|rfl,rfl⟩:=h
 all_goals
  unfold c19
  simp -implicitDefEqProofs only [rX,aA,↓reduceIte,Nat.reduceEqDiff,reduceCtorEq,cxN,aO,reduceIte,yaa]
  repeat' first
   | with_reducible refine And.intro ?_ ?_
   | (refine aJ (o) ?_ ?_ ?_ ?_;(focus simp [aE,aG,aL,a6,blk,wkL,wk,wkR,wkB,d0,d1,d2,d3,d4,d5,d6,d7,d8,d9,aQ,aP];done);(focus rfl);(focus simp [aD,aC];done))
   | simp -implicitDefEqProofs only [rX,↓reduceIte,aY,a7,wfV,reduceIte]
   | rfl
end Go.Fx.Q
namespace Go.Fx.Q
open Go Go.Fx Go.Fx.K Go.Proofs Go.Fx.R Go.RowKit
set_option maxRecDepth 20000
def srt (l:List Int):List Int:=l.mergeSort fun x y=>decide (x≤y)
theorem aaM {l:List Int}:(srt l).length=l.length:=List.length_mergeSort ..
theorem Ee {S:Nat→Prop} {w:World} {b:Nat}:∀ {l:List Int} {off:Nat},cP S w 1 b off (l.map encI)→∀ j (h:j<l.length),w.cell? ⟨b,off+j,none⟩=some (.int .i64 l[j])
 | [],_,_,j,h=>by simp at h
 | x::r,off,hr,j,h=>by
  obtain ⟨⟨_,⟨val,h1,h2⟩,_⟩,h3⟩:=hr
  cases j with
  | zero =>
   have:val=.int .i64 x:=h2.1
   subst this;exact h1
  | succ j =>
   have:=Ee h3 j (by simpa using h)
   rw [show off+(j+1)=off+1+j by omega]
   exact this
theorem Hv {S:Nat→Prop} {w:World} {b:Nat}:∀ {l:List Int} {off:Nat},(∀ j (h:j<l.length),w.cell? ⟨b,off+j,none⟩=some (.int .i64 l[j]))→cP S w 1 b off (l.map encI)
 | [],_,_=>trivial
 | x::r,off,h=>⟨⟨rfl,⟨_,h 0 (by simp),rfl,rfl⟩,trivial⟩,Hv fun j hj=>by
   have:=h (j+1) (by simpa using hj)
   rw [show off+1+j=off+(j+1) by omega]
   exact this⟩
theorem alJ (l:List Int) (hl:l.length<4611686018427387904):OkN Tryz.prog 140 [.sl 0 0 l.length] [.arr 1 (l.map encI)] [] (IsA (.tup []) [.arr 1 ((srt l).map encI)]):=by
 refine ⟨⟨_,Tryz.func140,rfl,rfl⟩,?_⟩
 intro ρ X w vals hr ha
 match vals,ha with
 | [val],⟨hv,_⟩ =>
 obtain ⟨cap,h1,h2,h3⟩:=hv
 rcases h3 with ⟨h4,a,rfl⟩|⟨hre,rfl,hroom⟩
 ·have hl0:l=[]:=List.length_eq_zero_iff.1 (by omega)
  subst hl0
  refine (Tryz.slices_Sort_int_none a 0 w).mono ?_
  rintro e w' ⟨rfl,rfl⟩
  exact ⟨_,.tup [],[.arr 1 []],ρ,rfl,⟨⟨rfl,by simp [srt]⟩,yaC _⟩,Fr.refl _ _,hr,⟨#[],rfl,trivial⟩,fun _ _ _=>rfl⟩
 ·have hb:=hr.blk 0 _ rfl
  obtain ⟨⟨hsz,_⟩,hb|⟨_,c,T,hc,hcs,hlen,hels⟩⟩:=hb
  ·rw [hb.1] at hre;cases hre
  have hoff:(ρ 0).off+0*(ρ 0).sz=(ρ 0).off:=by omega
  rw [hoff]
  rw [yaT] at hlen
  have hg:=fun j hj=>Ee hels j hj
  have hH:Sort.Holds (Value.int .i64) w (ρ 0).blk (ρ 0).off l.toArray:=by
   intro j hj
   have hj':j<l.length:=by simpa using hj
   refine ⟨?_,by simp [World.frozen?,hc]⟩
   rw [hg j hj']
   simp [hj']
  refine (Tryz.slices_Sort_int (ρ 0).blk (ρ 0).off cap l w hH (hr.lt 0 hre) hl).mono ?_
  rintro e w' ⟨rfl,n,os,rfl⟩
  have hbl:=hr.lt 0 hre
  have hsl:(srt l).length=l.length:=aaM
  have hw1:(Sort.grow (Sort.putRow (Value.int .i64) (Sort.ahead w n) (ρ 0).blk (ρ 0).off (srt l).toArray) os).heap[(ρ 0).blk]?=some (.cells (Sort.putCells (Value.int .i64) (ρ 0).off (srt l).toArray c) T (0,0)):=by
   simp only [Sort.grow,Sort.putRow,Sort.mapBlock,Sort.ahead]
   rw [yaZ (by simpa using hbl),yba,if_pos rfl,hc]
   rfl
  have hw2:∀ b,b<w.heap.size→b≠(ρ 0).blk→(Sort.grow (Sort.putRow (Value.int .i64) (Sort.ahead w n) (ρ 0).blk (ρ 0).off (srt l).toArray) os).heap[b]?=w.heap[b]?:=by
   intro b hb hne
   simp only [Sort.grow,Sort.putRow,Sort.mapBlock,Sort.ahead]
   rw [yaZ (by simpa using hb),yba,if_neg (fun h=>hne h.symm)]
  have hsize:w.heap.size≤(Sort.grow (Sort.putRow (Value.int .i64) (Sort.ahead w n) (ρ 0).blk (ρ 0).off (srt l).toArray) os).heap.size:=by
   simp [Sort.grow,Sort.putRow,Sort.mapBlock,Sort.ahead]
  have hfr:Fr ρ w ρ (Sort.grow (Sort.putRow (Value.int .i64) (Sort.ahead w n) (ρ 0).blk (ρ 0).off (srt l).toArray) os):=⟨rfl,rfl,rfl,hsize,fun b hb ho=>⟨hw2 b hb fun h=>ho ⟨0,hre,h.symm⟩,ho⟩⟩
  have hcell:∀ j (hj:j<l.length),(Sort.grow (Sort.putRow (Value.int .i64) (Sort.ahead w n) (ρ 0).blk (ρ 0).off (srt l).toArray) os).cell? ⟨(ρ 0).blk,(ρ 0).off+j,none⟩=some (.int .i64 ((srt l)[j]'(by rw [hsl];exact hj))):=by
   intro j hj
   have hjc:(ρ 0).off+j<c.size:=by rw [hcs];rw [hsz] at hroom;omega
   simp only [World.cell?,hw1]
   simp [Sort.putCells,hjc,hsl,hj]
  refine ⟨_,.tup [],[.arr 1 ((srt l).map encI)],ρ,rfl,⟨⟨rfl,rfl⟩,yaC _⟩,hfr,⟨hr.inj,hr.out,fun k b hk=>?_,hr.disj,fun k hk=>yaV (hr.lt k hk) hsize,hr.xfr hfr⟩,⟨#[],rfl,trivial⟩,fun _ _ _=>rfl⟩
  cases k with
  | succ k=>simp at hk
  | zero =>
   simp only [yaY,Option.some.injEq] at hk
   subst hk
   refine ⟨⟨hsz,by omega⟩,.inr ⟨hre,_,T,hw1,by simp [Sort.putCells,hcs],by rw [yaT,hsl];exact hlen,Hv fun j hj=>?_⟩⟩
   rw [hsl] at hj
   exact hcell j hj
theorem apT:OkN Tryz.prog 140 [.sl 0 0 4] [.arr 1 [[.i 4],[.i 8],[.i 0],[.i 10]]] [] (IsA (.tup []) [.arr 1 [[.i 0],[.i 4],[.i 8],[.i 10]]]):=by
 have h:=alJ [4,8,0,10] (by decide)
 rw [show srt [4,8,0,10]=[0,4,8,10] by simp [srt,List.mergeSort,List.MergeSort.Internal.splitInTwo]] at h
 exact h
theorem apS:OkN Tryz.prog 141 [.sl 0 0 4] [.arr 1 [[.i 0],[.i 4],[.i 8],[.i 10]]] [] (IsA (.sl 0 0 4) [.arr 1 [[.i 0],[.i 4],[.i 8],[.i 10]]]):=by
 refine cO pol [0] lw141 (by simp) ⟨trivial,trivial⟩ (fun k hk hm=>by simp at hk ⊢;omega) ?_
 unfold c141 c141l0 c141l1
 simp -implicitDefEqProofs only [rX,↓rY,aA,↓reduceIte,reduceCtorEq,aY,a7,leH,leB,aD,aC,wfB,wfV,Nat.reduceLT,Nat.reduceLeDiff,cxN,aO,bC,yaf,yah,yak,decide_false,reduceIte,yal,Nat.reduceLeDiff,Nat.reduceLT,yac,wg,yaa,maxLen,yan,true_implies]
 repeat' first
  | with_reducible refine And.intro ?_ ?_
  | (refine bY [0,2,3,4,5] 9 ?_ ?_;(focus simp -implicitDefEqProofs only [rX,kY,↓reduceIte,Nat.reduceEqDiff,reduceCtorEq,leE,leH,leB,aD,aC,wfE,wfB,wfV,reduceIte];done))
  | (refine fG ?_ ?_;(focus simp -implicitDefEqProofs only [rX,kY,↓reduceIte,Nat.reduceEqDiff,reduceCtorEq,leE,leH,leB,aD,aC,wfE,wfB,wfV,reduceIte];done))
  | simp -implicitDefEqProofs only [rX,↓rY,kY,aA,↓reduceIte,Nat.reduceEqDiff,dB,Nat.reduceAdd,reduceCtorEq,bN,aY,a7,leH,leB,aD,aC,wfB,wfV,Nat.reduceLT,Nat.reduceLeDiff,bC,yaf,yah,yai,yab,yak,yap,yax,yam,decide_true,decide_false,reduceIte,Nat.reduceAdd,yal,Nat.reduceLeDiff,Nat.reduceLT,yac,we,wg,lo,Fx.hi,yaa,yaq,yau,exists_prop,maxLen,yan,true_implies,yao,yar]
  | rfl
theorem apU:Ok 127 [.ro 2 lC,.ro 2 [sp 0 10]] (IsA (.clo 139 [.ptr 0 0 0,.ptr 1 0 0]) [.var [.ro 2 lC],.var [.ro 2 [sp 0 10]]]):=by
 refine bO lw127 (by simp) ?_
 unfold c127
 simp -implicitDefEqProofs only [rX,↓rY,aA,cells?,↓reduceIte,Nat.reduceEqDiff,Nat.reduceAdd,reduceCtorEq,aF,aY,a7,leH,leB,leV,cI,aD,aC,wfB,wfV,wfL,Nat.reduceLeDiff,cxN,aO,yad,yag,bC,yab,reduceIte,Nat.reduceAdd,Nat.reduceLeDiff,yac,yaa]
set_option maxHeartbeats 4000000 in
theorem apW:Ok 116 [.ro 2 lC,.ro 2 [sp 0 10]] (Is .nil):=by
 refine bO lw116 (by simp) ?_
 unfold c116 c116a0 c116r0
 simp -implicitDefEqProofs only [rX,↓rY,aA,cells?,↓reduceIte,Nat.reduceEqDiff,reduceCtorEq,aF,cxN,aO,reduceIte,yac,yaa]
 repeat' first
  | with_reducible refine And.intro ?_ ?_
  | ((with_reducible show aR _ 127 _ _ _);refine bU [] (apU) ?_ rfl ?_ ?_ ?_ ?_;(focus simp;done);(focus simp [aE,aG,aL,a6,blk,wkL,wk,wkR,wkB,d0,d1,d2,d3,d4,d5,d6,d7,d8,d9,aQ,aP,pos,fM,mM,mN,mK,mO,mL,pW,gK,oH,lI];done);(focus simp;done);(focus simp [aN,bA,aD,aC];done))
  | (refine Ag _ rfl rfl trivial ?_;refine Ao pol _ lw139 ?_ ?_;(focus simp [bZ];done);unfold c139 c139l0 c139l1 c139l2 c139l3)
  | refine ⟨rfl,Bg _ rfl rfl rfl ?_⟩
  | (refine bY [0,1,2,4,7,8,9,10,14,15,16] 9 ?_ ?_;(focus simp -implicitDefEqProofs only [rX,kY,↓reduceIte,Nat.reduceEqDiff,reduceCtorEq,leE,leH,leB,leV,cI,aD,aC,wfE,wfB,wfV,wfL,yad,reduceIte,or_true];done))
  | (refine fG ?_ ?_;(focus simp -implicitDefEqProofs only [rX,kY,↓reduceIte,Nat.reduceEqDiff,reduceCtorEq,leE,leH,leB,leV,cI,aD,aC,wfE,wfB,wfV,wfL,yad,reduceIte,or_true];done))
  | ((with_reducible show aR _ 51 _ _ _);refine bU [] (r51 _ _ (.inr ⟨rfl,rfl⟩)) ?_ rfl ?_ ?_ ?_ ?_;(focus simp;done);(focus simp [aE,aG,aL,a6,blk,wkL,wk,wkR,wkB,d0,d1,d2,d3,d4,d5,d6,d7,d8,d9,aQ,aP,pos,fM,mM,mN,mK,mO,mL,pW,gK,oH,lI];done);(focus simp;done);(focus simp [aN,bA,aD,aC];done))
  | ((with_reducible show aR _ 140 _ _ _);refine bU [8] (apT) ?_ rfl ?_ ?_ ?_ ?_;(focus simp;done);(focus simp [aE,aG,aL,a6,blk,wkL,wk,wkR,wkB,d0,d1,d2,d3,d4,d5,d6,d7,d8,d9,aQ,aP,pos,fM,mM,mN,mK,mO,mL,pW,gK,oH,lI];done);(focus simp;done);(focus simp [aN,bA,aD,aC];done))
  | ((with_reducible show aR _ 141 _ _ _);refine bU [8] (apS) ?_ rfl ?_ ?_ ?_ ?_;(focus simp;done);(focus simp [aE,aG,aL,a6,blk,wkL,wk,wkR,wkB,d0,d1,d2,d3,d4,d5,d6,d7,d8,d9,aQ,aP,pos,fM,mM,mN,mK,mO,mL,pW,gK,oH,lI];done);(focus simp;done);(focus simp [aN,bA,aD,aC];done))
  | ((with_reducible show aR _ 50 _ _ _);refine aJ (apK) ?_ ?_ ?_ ?_;(focus simp [aE,aG,aL,a6,blk,wkL,wk,wkR,wkB,d0,d1,d2,d3,d4,d5,d6,d7,d8,d9,aQ,aP,fM,mM,mN,mK,mO,mL,pW,gK,oH,lI];done);(focus rfl);(focus simp [aD,aC];done))
  | simp -implicitDefEqProofs only [rX,↓rY,rZ,↓rW,rdK,kY,aA,cells?,splice,↓reduceIte,Nat.reduceEqDiff,dB,Nat.reduceAdd,reduceCtorEq,aF,bJ,bR,aY,a7,aC,wfE,wfB,wfV,wfL,aM,aK,kill,bD,St.kill,isD,isC,Nat.reduceLT,Nat.reduceLeDiff,↓qbq,↓qbt,yaL,gH,uK,uJ,gI,j8,fF,aO,ren,bZ,bA,back,aN,aM,aK,kill,bD,yay,yad,yag,yaf,yah,yai,yab,yak,yav,yap,yam,decide_true,decide_false,reduceIte,Nat.reduceAdd,yal,Nat.reduceLeDiff,Nat.reduceLT,yaw,yaj,yae,yac,or_true,we,wg,lo,Fx.hi,yaa,yaq,yau,exists_prop,maxLen,yan,true_implies,isC,isD,yao,yar,yat,yas]
  | rfl
theorem akE:OkN Tryz.prog 50 [.sl 0 0 1] [.arr 2 lC] [0] (IsA (.ro 2 lC) [.dead]) :=
 Kb (xs:=[.sl 0 0 1]) (h0:=[.arr 2 lC]) (r50 _ _ _ _ (.inr ⟨⟨⟨rfl,rfl⟩,rfl⟩,rfl⟩)) (by simp [gvL,gvV,wkL,wk,wkR,blk])
theorem r91:Ok 91 [.ro 2 [sp 0 10],.agg (sp 4 8)] (Is .nil):=by
 refine bO lw91 (by simp) ?_
 unfold c91
 simp -implicitDefEqProofs only [rX,↓rY,aA,cells?,↓reduceIte,Nat.reduceEqDiff,Nat.reduceAdd,reduceCtorEq,aF,bR,isD,Nat.reduceLT,cxN,aO,yad,yag,yah,yab,reduceIte,Nat.reduceAdd,Nat.reduceLT,yae,yac,yaa,isD]
 repeat' first
  | with_reducible refine And.intro ?_ ?_
  | ((with_reducible show aR _ 50 _ _ _);refine Gl 1 (akE) ?_ ?_ rfl ?_ ?_ ?_;(focus simp;done);(focus simp;done);(focus simp [aE,aG,aL,a6,blk,wkL,wk,wkR,wkB,d0,d1,d2,d3,d4,d5,d6,d7,d8,d9,aQ,aP,pos];done);(focus simp [aK,aD,aC];done))
  | ((with_reducible show aR _ 116 _ _ _);refine aJ (apW) ?_ ?_ ?_ ?_;(focus simp [aE,aG,aL,a6,blk,wkL,wk,wkR,wkB,d0,d1,d2,d3,d4,d5,d6,d7,d8,d9,aQ,aP];done);(focus rfl);(focus simp [aD,aC];done))
  | simp -implicitDefEqProofs only [rX,↓reduceIte,Nat.reduceEqDiff,reduceCtorEq,aY,a7,wfV,aM,aK,kill,bD,St.kill,ren,aM,aK,kill,bD,yag,reduceIte]
  | rfl
theorem r59:Ok 59 [.ro 2 [sp 0 10],.agg (sp 4 8)] (Is (.b true)):=by
 refine bO lw59 (by simp) ?_
 unfold c59
 simp -implicitDefEqProofs only [rX,↓rY,aA,cells?,↓reduceIte,Nat.reduceEqDiff,Nat.reduceAdd,reduceCtorEq,aF,cxN,aO,yab,reduceIte,Nat.reduceAdd,yae,yac,yaa]
 repeat' first
  | with_reducible refine And.intro ?_ ?_
  | ((with_reducible show aR _ 91 _ _ _);refine aJ (r91) ?_ ?_ ?_ ?_;(focus simp [aE,aG,aL,a6,blk,wkL,wk,wkR,wkB,d0,d1,d2,d3,d4,d5,d6,d7,d8,d9,aQ,aP];done);(focus rfl);(focus simp [aD,aC];done))
  | simp -implicitDefEqProofs only [rX,↓rY,aA,↓reduceIte,aY,a7,wfV,↓qaT,BEq.rfl,reduceIte,yac]
  | rfl
end Go.Fx.Q
namespace Go.Fx.Q
open Go Go.Fx Go.Fx.K Go.Proofs Go.Fx.R
set_option maxRecDepth 20000
abbrev hI:List Blk:=[.var [.clo 79 [.ptr 0 0 0,.ptr 1 0 0]],.var [.nil]]
theorem apG:OkN Tryz.prog 79 [.bro 16 [d2],.i 0,.ptr 0 0 0,.ptr 1 0 0] hI [] (IsA (.tup []) hI):=by
 refine cO pol [0,1] lw79 (by simp) ⟨trivial,trivial,trivial⟩ (fun k hk _=>by simp at hk ⊢;omega) ?_
 unfold c79
 simp -implicitDefEqProofs only [rX,↓rY,aA,↓reduceIte,Nat.reduceAdd,reduceCtorEq,aY,a7,leH,leB,leV,cI,aD,aC,wfB,wfV,wfL,Nat.reduceLeDiff,cxN,aO,yad,bC,yaf,yab,yak,BEq.rfl,reduceIte,Nat.reduceAdd,yal,Nat.reduceLeDiff,we,yaa,maxLen,yan,true_implies,d2,aQ,aP]
theorem apF:OkN Tryz.prog 79 [.bro 16 [d0,d1,d2],.i 2,.ptr 0 0 0,.ptr 1 0 0] hI [] (IsA (.tup []) [.var [.clo 79 [.ptr 0 0 0,.ptr 1 0 0]],.var [.sl 3 0 1],.dead,.arr 16 [d5]]):=by
 refine cO pol [0,1] lw79 (by simp) ⟨trivial,trivial,trivial⟩ (fun k hk _=>by simp at hk ⊢;omega) ?_
 unfold c79
 simp -implicitDefEqProofs only [rX,↓rY,aA,↓reduceIte,Nat.reduceAdd,reduceCtorEq,aY,a7,leH,leB,leV,cI,aD,aC,wfB,wfV,wfL,Nat.reduceLeDiff,cxN,aO,yad,bC,yaf,yab,yak,yax,reduceIte,Nat.reduceAdd,yal,Nat.reduceLeDiff,yac,wg,yaa,maxLen,yan,true_implies,d0,d1,d2,aQ,aP]
 repeat' first
  | with_reducible refine And.intro ?_ ?_
  | ((with_reducible show aR _ 77 _ _ _);refine aJ (r77 2 (.inr rfl)) ?_ ?_ ?_ ?_;(focus simp [aE,aG,aL,a6,blk,wkL,wk,wkR,wkB,d0,d1,d2,d3,d4,d5,d6,d7,d8,d9,aQ,aP,d5,aQ,aP];done);(focus rfl);(focus simp [aD,aC];done))
  | ((with_reducible show aR _ 79 _ _ _);refine bU [0,1] (apG) ?_ rfl ?_ ?_ ?_ ?_;(focus simp;done);(focus simp [aE,aG,aL,a6,blk,wkL,wk,wkR,wkB,d0,d1,d2,d3,d4,d5,d6,d7,d8,d9,aQ,aP,pos,d5,aQ,aP];done);(focus simp;done);(focus simp [aN,bA,aD,aC];done))
  | ((with_reducible show aR _ 43 _ _ _);refine aJ (akG) ?_ ?_ ?_ ?_;(focus simp [aE,aG,aL,a6,blk,wkL,wk,wkR,wkB,d0,d1,d2,d3,d4,d5,d6,d7,d8,d9,aQ,aP,d5,aQ,aP];done);(focus rfl);(focus simp [aD,aC];done))
  | simp -implicitDefEqProofs only [rX,↓rY,rdK,cells?,splice,↓reduceIte,Nat.reduceEqDiff,Nat.reduceAdd,reduceCtorEq,aF,bN,bR,aY,a7,leH,leB,leV,cI,aD,aC,wfB,wfV,wfL,isD,isC,Nat.reduceLT,Nat.reduceLeDiff,↓qbq,↓qbt,ren,bZ,bA,back,aN,yad,yag,bC,yaf,yah,yai,yab,yak,yav,yap,yam,yaB,decide_false,reduceIte,Nat.reduceAdd,yal,Nat.reduceLeDiff,Nat.reduceLT,yaw,yaj,yae,yac,or_true,wg,lo,Fx.hi,yaa,isC,isD,yao,yat,yas,iJ,Cj,d5,aQ,aP]
  | rfl
theorem r44:Ok 44 [.bro 16 [d0,d1,d2],.i 2] (Is (.tup [.ro 16 [d5],.i 0])):=by
 refine vS (R:=fun q hs=>wk (.tup [.ro 16 [d5],.i 0]) (gvV (fun _=>true) hs q)) ?_ fun _ _ h=>h
 refine bO lw44 (by simp) ?_
 unfold c44
 simp -implicitDefEqProofs only [rX,↓rY,aA,cells?,splice,↓reduceIte,Nat.reduceEqDiff,Nat.reduceAdd,reduceCtorEq,aF,isC,Nat.reduceLT,Nat.reduceLeDiff,cxN,aO,yad,yag,yaf,yah,yai,yab,yak,decide_false,reduceIte,Nat.reduceAdd,yal,Nat.reduceLeDiff,Nat.reduceLT,yaj,yac,we,wg,yaa,maxLen,yan,true_implies,isC]
 repeat' first
  | with_reducible refine And.intro ?_ ?_
  | ((with_reducible show aR _ 79 _ _ _);refine bU [1,0] (apF) ?_ rfl ?_ ?_ ?_ ?_;(focus simp;done);(focus simp [aE,aG,aL,a6,blk,wkL,wk,wkR,wkB,d0,d1,d2,d3,d4,d5,d6,d7,d8,d9,aQ,aP,pos,cC];done);(focus simp;done);(focus simp [aN,bA,aD,aC];done))
  | simp -implicitDefEqProofs only [rX,↓rY,aA,↓reduceIte,Nat.reduceEqDiff,Nat.reduceAdd,aY,a7,aD,aC,wfV,wfL,ren,bZ,bA,back,aN,yay,yad,yag,yab,yak,reduceIte,Nat.reduceAdd,yal,yac,yaa,cC]
  | rfl
 refine ⟨_,⟨aU _,by simp -implicitDefEqProofs only [rX,Nat.reduceAdd,aC,wfB,wfV,wfL,Nat.reduceLeDiff,yad,yab,Nat.reduceAdd,Nat.reduceLeDiff,yaa]⟩,?_⟩
 simp [gvV,gvL,wk,wkL,wkR,blk,d0,d1,d2,d3,d4,d5,d6,d7,d8,d9,aQ,aP]
theorem r14:Ok 14 [sv xA,.i 4,.i 2] (Is (.tup [.ro 16 [d5],.i 0])):=by
 refine bO lw14 (by simp) ?_
 unfold c14
 simp -implicitDefEqProofs only [rX,aA,↓reduceIte,Nat.reduceEqDiff,Nat.reduceAdd,reduceCtorEq,cxN,aO,yab,reduceIte,Nat.reduceAdd,yaa]
 repeat' first
  | with_reducible refine And.intro ?_ ?_
  | ((with_reducible show aR _ 13 _ _ _);refine aJ (r13) ?_ ?_ ?_ ?_;(focus simp [aE,aG,aL,a6,blk,wkL,wk,wkR,wkB,d0,d1,d2,d3,d4,d5,d6,d7,d8,d9,aQ,aP,d6,aQ,aP];done);(focus rfl);(focus simp [aD,aC];done))
  | ((with_reducible show aR _ 24 _ _ _);refine aJ (r24) ?_ ?_ ?_ ?_;(focus simp [aE,aG,aL,a6,blk,wkL,wk,wkR,wkB,d0,d1,d2,d3,d4,d5,d6,d7,d8,d9,aQ,aP,d6,aQ,aP];done);(focus rfl);(focus simp [aD,aC];done))
  | ((with_reducible show aR _ 44 _ _ _);refine aJ (r44) ?_ ?_ ?_ ?_;(focus simp [aE,aG,aL,a6,blk,wkL,wk,wkR,wkB,d0,d1,d2,d3,d4,d5,d6,d7,d8,d9,aQ,aP,d6,aQ,aP];done);(focus rfl);(focus simp [aD,aC];done))
  | simp -implicitDefEqProofs only [rX,↓rY,aA,cells?,splice,↓reduceIte,Nat.reduceEqDiff,Nat.reduceAdd,reduceCtorEq,aF,aY,a7,wfV,wfL,isC,yad,yab,yaD,reduceIte,Nat.reduceAdd,yaj,yac,wg,yaa,isC,d6,aQ,aP]
  | rfl
theorem r15:Ok 15 [.agg mA] (Is (.i 3)):=by
 refine bO lw15 (by simp) ?_
 unfold c15
 simp -implicitDefEqProofs only [rX,↓rY,aA,cells?,↓reduceIte,Nat.reduceEqDiff,aF,cxN,aO,yad,reduceIte,yac,yaa,d6,aQ,aP]
 repeat' first
  | with_reducible refine And.intro ?_ ?_
  | ((with_reducible show aR _ 42 _ _ _);refine aJ (r42 10 (.inl rfl)) ?_ ?_ ?_ ?_;(focus simp [aE,aG,aL,a6,blk,wkL,wk,wkR,wkB,d0,d1,d2,d3,d4,d5,d6,d7,d8,d9,aQ,aP];done);(focus rfl);(focus simp [aD,aC];done))
  | simp -implicitDefEqProofs only [rX,↓reduceIte,Nat.reduceAdd,aY,a7,wfV,yab,yaF,reduceIte,Nat.reduceAdd]
  | rfl
theorem r16:Ok 16 [.agg mA,.i 2] (Is (.agg [.i 8,.i 10])):=by
 refine bO lw16 (by simp) ?_
 unfold c16
 simp -implicitDefEqProofs only [rX,↓rY,aA,cells?,splice,↓reduceIte,Nat.reduceEqDiff,Nat.reduceAdd,reduceCtorEq,aF,bJ,aY,a7,wfV,wfL,isC,Nat.reduceLT,cxN,aO,yad,yag,yah,yab,decide_false,reduceIte,Nat.reduceAdd,Nat.reduceLT,yae,yac,we,wg,yaa,isC,d6,aQ,aP]
 repeat' first
  | with_reducible refine And.intro ?_ ?_
  | ((with_reducible show aR _ 15 _ _ _);refine aJ (r15) ?_ ?_ ?_ ?_;(focus simp [aE,aG,aL,a6,blk,wkL,wk,wkR,wkB,d0,d1,d2,d3,d4,d5,d6,d7,d8,d9,aQ,aP];done);(focus rfl);(focus simp [aD,aC];done))
  | simp -implicitDefEqProofs only [rX,↓rY,aA,cells?,splice,↓reduceIte,Nat.reduceEqDiff,Nat.reduceAdd,reduceCtorEq,bJ,aY,a7,wfV,wfL,isC,Nat.reduceLeDiff,yad,yag,yai,yab,yav,yam,decide_false,yaz,reduceIte,Nat.reduceAdd,Nat.reduceLeDiff,yaw,yaj,yae,yac,wg,lo,Fx.hi,yaa,isC]
  | rfl
end Go.Fx.Q
namespace Go.Fx.Q
open Go Go.Fx Go.Fx.K Go.Proofs Go.Fx.R
set_option maxRecDepth 20000
abbrev xB:Bs:=[97,98,99,100,101,88,103,104,105,106]
set_option maxHeartbeats 4000000 in
theorem r23:Ok 23 [.agg mA,.ro 16 [d0,d1,d2],sv xB,.ro 2 [sp 0 10]] (Is (.tup [.ro 2 lC,.i 0])):=by
 refine bO lw23 (by simp) ?_
 unfold c23 c23a0 c23r0
 simp -implicitDefEqProofs only [rX,↓rY,rdK,aA,cells?,↓reduceIte,Nat.reduceEqDiff,Nat.reduceAdd,reduceCtorEq,aF,Nat.reduceLeDiff,cxN,aO,yad,yag,yaf,yab,yak,reduceIte,Nat.reduceAdd,yal,Nat.reduceLeDiff,yae,yac,yaa,maxLen,yan,true_implies,yaJ,yaK,d0,d1,d2,d6,aQ,aP]
 repeat' first
  | with_reducible refine And.intro ?_ ?_
  | ((with_reducible show aR _ 15 _ _ _);refine aJ (r15) ?_ ?_ ?_ ?_;(focus simp [aE,aG,aL,a6,blk,wkL,wk,wkR,wkB,d0,d1,d2,d3,d4,d5,d6,d7,d8,d9,aQ,aP,d0,d1,d2,d3,d4,d5,d6,d7,d8,d9,aQ,aP];done);(focus rfl);(focus simp [aD,aC];done))
  | ((with_reducible show aR _ 47 _ _ _);refine aJ (r47 _ (.inr rfl)) ?_ ?_ ?_ ?_;(focus simp [aE,aG,aL,a6,blk,wkL,wk,wkR,wkB,d0,d1,d2,d3,d4,d5,d6,d7,d8,d9,aQ,aP,d0,d1,d2,d3,d4,d5,d6,d7,d8,d9,aQ,aP];done);(focus rfl);(focus simp [aD,aC];done))
  | ((with_reducible show aR _ 43 _ _ _);refine aJ (akF) ?_ ?_ ?_ ?_;(focus simp [aE,aG,aL,a6,blk,wkL,wk,wkR,wkB,d0,d1,d2,d3,d4,d5,d6,d7,d8,d9,aQ,aP,d0,d1,d2,d3,d4,d5,d6,d7,d8,d9,aQ,aP];done);(focus rfl);(focus simp [aD,aC];done))
  | ((with_reducible show aR _ 53 _ _ _);refine bU [] (r53 xB 4) ?_ rfl ?_ ?_ ?_ ?_;(focus simp;done);(focus simp [aE,aG,aL,a6,blk,wkL,wk,wkR,wkB,d0,d1,d2,d3,d4,d5,d6,d7,d8,d9,aQ,aP,pos,d0,d1,d2,d3,d4,d5,d6,d7,d8,d9,aQ,aP];done);(focus simp;done);(focus simp [aN,bA,aD,aC];done))
  | (refine Ag _ rfl rfl trivial ?_;refine Ao pol _ lw89 ?_ ?_;(focus simp [bZ];done);unfold c89 c89l0)
  | refine ⟨rfl,Bg _ rfl rfl rfl ?_⟩
  | (refine bY [0,1,2,4] 9 ?_ ?_;(focus simp -implicitDefEqProofs only [rX,kY,↓reduceIte,Nat.reduceEqDiff,reduceCtorEq,leE,leH,leB,leV,cI,aD,aC,wfE,wfB,wfV,wfL,yad,reduceIte,or_true,d6,aQ,aP];done))
  | (refine fG ?_ ?_;(focus simp -implicitDefEqProofs only [rX,kY,↓reduceIte,Nat.reduceEqDiff,reduceCtorEq,leE,leH,leB,leV,cI,aD,aC,wfE,wfB,wfV,wfL,yad,reduceIte,or_true,d6,aQ,aP];done))
  | ((with_reducible show aR _ 46 _ _ _);refine aJ (L0) ?_ ?_ ?_ ?_;(focus simp [aE,aG,aL,a6,blk,wkL,wk,wkR,wkB,d0,d1,d2,d3,d4,d5,d6,d7,d8,d9,aQ,aP,d0,d1,d2,d3,d4,d5,d6,d7,d8,d9,aQ,aP];done);(focus rfl);(focus simp [aD,aC];done))
  | ((with_reducible show aR _ 46 _ _ _);refine aJ (L4) ?_ ?_ ?_ ?_;(focus simp [aE,aG,aL,a6,blk,wkL,wk,wkR,wkB,d0,d1,d2,d3,d4,d5,d6,d7,d8,d9,aQ,aP,d0,d1,d2,d3,d4,d5,d6,d7,d8,d9,aQ,aP];done);(focus rfl);(focus simp [aD,aC];done))
  | ((with_reducible show aR _ 46 _ _ _);refine aJ (L2) ?_ ?_ ?_ ?_;(focus simp [aE,aG,aL,a6,blk,wkL,wk,wkR,wkB,d0,d1,d2,d3,d4,d5,d6,d7,d8,d9,aQ,aP,d0,d1,d2,d3,d4,d5,d6,d7,d8,d9,aQ,aP];done);(focus rfl);(focus simp [aD,aC];done))
  | ((with_reducible show aR _ 59 _ _ _);refine aJ (r59) ?_ ?_ ?_ ?_;(focus simp [aE,aG,aL,a6,blk,wkL,wk,wkR,wkB,d0,d1,d2,d3,d4,d5,d6,d7,d8,d9,aQ,aP,d0,d1,d2,d3,d4,d5,d6,d7,d8,d9,aQ,aP];done);(focus rfl);(focus simp [aD,aC];done))
  | ((with_reducible show aR _ 50 _ _ _);refine Gl 12 (akE) ?_ ?_ rfl ?_ ?_ ?_;(focus simp;done);(focus simp;done);(focus simp [aE,aG,aL,a6,blk,wkL,wk,wkR,wkB,d0,d1,d2,d3,d4,d5,d6,d7,d8,d9,aQ,aP,pos,d0,d1,d2,d3,d4,d5,d6,d7,d8,d9,aQ,aP];done);(focus simp [aK,aD,aC];done))
  | simp -implicitDefEqProofs only [rX,↓rY,rZ,↓rW,qg,rdK,kw,kY,aA,cells?,splice,↓reduceIte,Nat.reduceEqDiff,Nat.reduceAdd,reduceCtorEq,aF,bN,bJ,bR,aY,a7,aC,wfE,wfB,wfV,wfL,aM,aK,kill,bD,St.kill,isD,isC,Nat.reduceLT,Nat.reduceLeDiff,↓qbq,↓qbt,bP,gH,fY,gI,eC,fX,fF,aO,ren,bZ,bA,back,aN,aM,aK,kill,bD,yay,yad,yag,yaf,yah,yai,yab,yak,yav,yaI,yap,yax,yaD,BEq.rfl,yam,yaB,ne_eq,decide_true,decide_false,yaz,reduceIte,Nat.reduceAdd,yal,Nat.reduceLeDiff,Nat.reduceLT,yaw,yaj,yae,yac,or_true,we,wg,cN,lo,Fx.hi,yaa,yaq,yau,exists_prop,maxLen,yan,true_implies,isC,isD,yao,yar,yat,yas,rG,rH,Br,l7,d0,d2,d4,d6,aQ,aP]
  | rfl
end Go.Fx.Q
namespace Go.Fx.Q
open Go Go.Fx Go.Fx.K Go.Proofs Go.Fx.R
set_option maxRecDepth 20000
abbrev yA:Bs:=[97,98,99,100,101,102,103,104]
abbrev yB:Bs:=[97,98,99,100,88,101,102,103,104]
def PE (o:V):List V:=d8++(d9++[.i 9,o])
abbrev op (a b:Int) (t:Bs):List V:=[.i a,.i b,sv t]
theorem eZ {a b:Bs}:(sb a==sb b)=(a==b):=by
 show (a.toArray==b.toArray)=(a==b)
 simp
theorem kB:(([101,102,103,104]:Bs)==[97,98,99,100])=false∧(([88,101,102,103]:Bs)==[97,98,99,100])=false∧(([88,101,102,103]:Bs)==[101,102,103,104])=false∧(([88]:Bs)==[])=false:=by decide
theorem Tj {k:Value} {i:Nat}:dF .string k [] i=some none:=rfl
theorem Ov {a b:Bs} {v:V} {n i:Nat} {es:List (Value × V × Nat)}:dF .string (.string (sb a)) ((.string (sb b),v,n)::es) i=if (a==b)=true then some (some (i,v)) else dF .string (.string (sb a)) es (i+1):=by
 have h:Instr.sameNow .string (.string (sb a)) (.string (sb b))=some (a==b):=by rw [←eZ];rfl
 rw [dF,h]
 cases a==b<;>rfl
theorem Oy {i:Nat} {v:V} {z:Value} {K:V→Prop}:eF (some (some (i,v))) z true K=K (.tup [v,.b true]):=rfl
theorem Oz {z:Value} {K:V→Prop}:eF (some none) z true K=K (.tup [aA z,.b false]):=rfl
theorem Ot {k:Value} {x:V} {es:List (Value × V × Nat)} {c:Nat} {K:Blk→Prop}:gZ (some none) k x es c K=K (.map (es++[(k,x,c)]) (c+1)):=rfl
theorem apJ:OkN Tryz.prog 55 [.i 0,.ptr 0 0 0,.ptr 1 0 0,.ptr 2 0 0] [.var [.i 0],.var (PE .nil),.var [sv yB]] [] (IsA (.tup []) [.var [.i 0],.var (PE .nil),.var [sv yB]]):=by
 refine cO pol [0,1,2] lw55 (by simp) ⟨trivial,trivial,trivial,trivial⟩ (fun k hk hm=>by simp at hk ⊢;omega) ?_
 unfold c55
 simp -implicitDefEqProofs only [rX,↓rY,↓reduceIte,Nat.reduceEqDiff,Nat.reduceAdd,reduceCtorEq,aY,a7,leH,leB,leV,cI,aD,aC,wfB,wfV,wfL,Nat.reduceLT,cxN,dC,aO,yad,bC,yah,yab,decide_false,reduceIte,Nat.reduceAdd,Nat.reduceLT,wg,yaa,PE,d8,d9,aQ,aP]
theorem apI:OkN Tryz.prog 55 [.i 5,.ptr 0 0 0,.ptr 1 0 0,.ptr 2 0 0] [.var [.i 4],.var (PE (.sl 3 0 1)),.var [sv yB],.arr 3 [op 0 4 []]] [3] (IsA (.tup []) [.var [.i 4],.var (PE (.sl 3 0 2)),.var [sv yB],.arr 3 [op 0 4 [],op 0 0 [88]]]):=by
 refine cO pol [0,1,2] lw55 (by simp) ⟨trivial,trivial,trivial,trivial⟩ (fun k hk hm=>by simp at hk hm ⊢;omega) ?_
 unfold c55
 simp -implicitDefEqProofs only [rX,↓rY,qG,rdK,kw,cells?,splice,↓reduceIte,Nat.reduceEqDiff,Nat.reduceAdd,reduceCtorEq,aF,bN,bJ,bR,aY,a7,leH,leB,leV,cI,aD,aC,wfB,wfV,wfL,aM,aK,kill,bD,St.kill,isD,isC,Nat.reduceLT,Nat.reduceLeDiff,cxN,bP,dC,aO,aM,aK,kill,bD,yad,yag,bC,yaf,yah,yai,yab,yav,yap,decide_true,reduceIte,Nat.reduceAdd,Nat.reduceLeDiff,Nat.reduceLT,yaw,yaj,yae,yac,or_true,we,cN,yaa,isC,isD,PE,d8,d9,aQ,aP]
abbrev oA:List (List V):=[op 0 4 [],op 0 0 [88],op 4 8 []]
theorem apH:OkN Tryz.prog 55 [.i 9,.ptr 0 0 0,.ptr 1 0 0,.ptr 2 0 0] [.var [.i 9],.var (PE (.sl 3 0 3)),.var [sv yB],.arr 3 oA] [] (IsA (.tup []) [.var [.i 9],.var (PE (.sl 3 0 3)),.var [sv yB],.arr 3 oA]):=by
 refine cO pol [0,1,2,3] lw55 (by simp) ⟨trivial,trivial,trivial,trivial,trivial⟩ (fun k hk hm=>by simp at hk ⊢;omega) ?_
 unfold c55
 simp -implicitDefEqProofs only [rX,↓rY,↓reduceIte,Nat.reduceEqDiff,Nat.reduceAdd,reduceCtorEq,aY,a7,leH,leB,leV,cI,aD,aC,wfB,wfV,wfL,Nat.reduceLT,cxN,dC,aO,yad,bC,yah,yab,decide_false,reduceIte,Nat.reduceAdd,Nat.reduceLT,wg,yaa,PE,d8,d9,aQ,aP]
set_option maxHeartbeats 4000000 in
theorem r20:Ok 20 [sv yA,sv yB,.i 4] (Is (.tup [.agg (PE (.ro 3 oA)),.i 0])):=by
 refine vS (R:=fun q hs=>wk (.tup [.agg (PE (.ro 3 oA)),.i 0]) (gvV (fun _=>true) hs q)) ?_ fun _ _ h=>h
 refine bO lw20 (by simp) ?_
 unfold c20 c20a0 c20r0 c20l0
 simp -implicitDefEqProofs only [rX,↓rY,aA,cells?,splice,↓reduceIte,Nat.reduceEqDiff,Nat.reduceAdd,reduceCtorEq,aF,bJ,isC,Nat.reduceLT,cxN,bP,dC,aO,yad,yag,yaf,yah,yai,yab,decide_false,yaG,reduceIte,Nat.reduceAdd,Nat.reduceLT,yaj,yac,we,wg,yaa,isC]
 repeat' first
  | with_reducible refine And.intro ?_ ?_
  | ((with_reducible show aR _ 53 _ _ _);refine bU [] (r53 yA 4) ?_ rfl ?_ ?_ ?_ ?_;(focus simp;done);(focus simp [aE,aG,aL,a6,blk,wkL,wk,wkR,wkB,d0,d1,d2,d3,d4,d5,d6,d7,d8,d9,aQ,aP,pos,PE,d0,d1,d2,d3,d4,d5,d6,d7,d8,d9,aQ,aP,cC,Tj,Ov,Oy,Oz,Ot,aA,isKey,kB,eZ];done);(focus simp;done);(focus simp [aN,bA,aD,aC];done))
  | (refine Ag _ rfl rfl trivial ?_;refine Ao pol _ lw89 ?_ ?_;(focus simp [bZ];done);unfold c89 c89l0)
  | refine ⟨rfl,Bg _ rfl rfl rfl ?_⟩
  | (refine bY [0,1,2,4,5,6,7,8,13,14,15,16] 9 ?_ ?_;(focus simp -implicitDefEqProofs only [rX,kY,↓reduceIte,Nat.reduceEqDiff,reduceCtorEq,leE,leH,leB,leV,cI,aD,aC,wfE,wfB,wfV,wfL,yad,reduceIte,or_true];done))
  | (refine fG ?_ ?_;(focus simp -implicitDefEqProofs only [rX,kY,↓reduceIte,Nat.reduceEqDiff,reduceCtorEq,leE,leH,leB,leV,cI,aD,aC,wfE,wfB,wfV,wfL,yad,reduceIte,or_true];done))
  | ((with_reducible show aR _ 54 _ _ _);refine aJ (D8) ?_ ?_ ?_ ?_;(focus simp [aE,aG,aL,a6,blk,wkL,wk,wkR,wkB,d0,d1,d2,d3,d4,d5,d6,d7,d8,d9,aQ,aP,PE,d0,d1,d2,d3,d4,d5,d6,d7,d8,d9,aQ,aP,cC,Tj,Ov,Oy,Oz,Ot,aA,isKey,kB,eZ];done);(focus rfl);(focus simp [aD,aC];done))
  | ((with_reducible show aR _ 54 _ _ _);refine aJ (D9) ?_ ?_ ?_ ?_;(focus simp [aE,aG,aL,a6,blk,wkL,wk,wkR,wkB,d0,d1,d2,d3,d4,d5,d6,d7,d8,d9,aQ,aP,PE,d0,d1,d2,d3,d4,d5,d6,d7,d8,d9,aQ,aP,cC,Tj,Ov,Oy,Oz,Ot,aA,isKey,kB,eZ];done);(focus rfl);(focus simp [aD,aC];done))
  | ((with_reducible show aR _ 55 _ _ _);refine bU [11,10,0] (apJ) ?_ rfl ?_ ?_ ?_ ?_;(focus simp;done);(focus simp [aE,aG,aL,a6,blk,wkL,wk,wkR,wkB,d0,d1,d2,d3,d4,d5,d6,d7,d8,d9,aQ,aP,pos,PE,d0,d1,d2,d3,d4,d5,d6,d7,d8,d9,aQ,aP,cC,Tj,Ov,Oy,Oz,Ot,aA,isKey,kB,eZ];done);(focus simp;done);(focus simp [aN,bA,aD,aC];done))
  | ((with_reducible show aR _ 55 _ _ _);refine ahN [11,10,0,13] [3] [13] (apI) ?_ ?_ rfl ?_ ?_ ?_;(focus simp;done);(focus simp;done);(focus simp [aE,aG,aL,a6,blk,wkL,wk,wkR,wkB,d0,d1,d2,d3,d4,d5,d6,d7,d8,d9,aQ,aP,pos,PE,d0,d1,d2,d3,d4,d5,d6,d7,d8,d9,aQ,aP,cC,Tj,Ov,Oy,Oz,Ot,aA,isKey,kB,eZ];done);(focus simp [aN,bA,aK,aD,aC];done))
  | ((with_reducible show aR _ 55 _ _ _);refine bU [11,10,0,13] (apH) ?_ rfl ?_ ?_ ?_ ?_;(focus simp;done);(focus simp [aE,aG,aL,a6,blk,wkL,wk,wkR,wkB,d0,d1,d2,d3,d4,d5,d6,d7,d8,d9,aQ,aP,pos,PE,d0,d1,d2,d3,d4,d5,d6,d7,d8,d9,aQ,aP,cC,Tj,Ov,Oy,Oz,Ot,aA,isKey,kB,eZ];done);(focus simp;done);(focus simp [aN,bA,aD,aC];done))
  | simp -implicitDefEqProofs only [rX,↓rY,rZ,↓rW,qg,qk,qG,rdK,zR,zW,kw,kY,aA,cells?,splice,↓reduceIte,Nat.reduceEqDiff,dB,Nat.reduceAdd,reduceCtorEq,aF,bN,bJ,bR,aY,a7,aD,aC,wfE,wfB,wfV,wfL,aM,aK,kill,bD,St.kill,isD,isC,Nat.reduceLT,Nat.reduceLeDiff,↓qaO,↓qaT,↓qbq,↓qbt,↓qbI,↓qbY,↓qcb,↓qck,bP,dZ,gH,fY,gI,eC,fX,fF,aO,ren,bZ,bA,back,aN,aM,aK,kill,bD,yay,yad,yag,yaf,yah,yai,yab,yak,yav,yap,yax,BEq.rfl,yam,decide_true,decide_false,yaz,reduceIte,Nat.reduceAdd,yal,Nat.reduceLeDiff,Nat.reduceLT,yaw,yaj,yae,yac,or_true,we,wg,cN,lo,Fx.hi,yaa,yaq,yau,exists_prop,maxLen,yan,true_implies,isC,isD,yao,yar,yat,yas,PE,d8,d9,aQ,aP,cC,Ov,Oy,Oz,Ot,aA,isKey,kB]
  | rfl
 all_goals
  refine ⟨_,⟨aU _,by simp -implicitDefEqProofs only [rX,Nat.reduceAdd,aC,wfB,wfV,wfL,Nat.reduceLeDiff,yad,yab,Nat.reduceAdd,Nat.reduceLeDiff,yaa]⟩,?_⟩
  simp [gvV,gvL,wk,wkL,wkR,blk,PE,d0,d1,d2,d3,d4,d5,d6,d7,d8,d9,aQ,aP]
theorem r21:Ok 21 [.agg (PE (.ro 3 oA))] (Is (.i 1)):=by
 refine bO lw21 (by simp) ?_
 unfold c21 c21l0
 simp -implicitDefEqProofs only [rX,↓rY,aA,cells?,↓reduceIte,Nat.reduceEqDiff,Nat.reduceAdd,aF,Nat.reduceLeDiff,cxN,dC,aO,yad,yaf,yab,yak,reduceIte,Nat.reduceAdd,yal,Nat.reduceLeDiff,yac,yaa,maxLen,yan,true_implies,PE,d8,d9,aQ,aP]
 repeat' first
  | with_reducible refine And.intro ?_ ?_
  | (refine bY [1,2,3,7,8,9] 9 ?_ ?_;(focus simp -implicitDefEqProofs only [rX,kY,↓reduceIte,Nat.reduceEqDiff,leE,leH,leB,leV,cI,aD,aC,wfE,wfB,wfV,wfL,reduceIte];done))
  | (refine fG ?_ ?_;(focus simp -implicitDefEqProofs only [rX,kY,↓reduceIte,Nat.reduceEqDiff,leE,leH,leB,leV,cI,aD,aC,wfE,wfB,wfV,wfL,reduceIte];done))
  | simp -implicitDefEqProofs only [rX,↓rY,kY,aA,cells?,splice,↓reduceIte,Nat.reduceEqDiff,Nat.reduceAdd,aF,aY,a7,wfV,isC,Nat.reduceLT,bP,yad,yag,yaf,yah,yai,yab,yap,yam,decide_true,decide_false,reduceIte,Nat.reduceAdd,Nat.reduceLT,yaj,yae,yac,we,wg,lo,Fx.hi,yaa,yaq,yau,exists_prop,isC,yao,yar]
  | rfl
end Go.Fx.Q
namespace Go.Fx.Q
open Go Go.Fx Go.Fx.K Go.Proofs
def c45a:LCode :=
 (.seq
 (.reg 0 [
 ⟨(some 13),.mov (.tmp 2),none⟩,
 ⟨(some 14),.bin .lss false (.tmp 13) (.const (.int .i64 1)),none⟩,
 ⟨(some 15),.mov (.tmp 14),none⟩,
 ⟨(some 16),.mov (.tmp 2),(some (15,false))⟩,
 ⟨(some 17),.bin .gtr false (.tmp 16) (.const (.int .i64 1099511627776)),(some (15,false))⟩,
 ⟨(some 18),.pick (.tmp 15) (.const (.bool true)) (.tmp 17),none⟩,
 ⟨(some 19),.mov (.tmp 18),none⟩,
 ⟨(some 20),.mov (.tmp 1),(some (19,false))⟩,
 ⟨(some 21),.bin .lss false (.tmp 20) (.const (.int .i64 0)),(some (19,false))⟩,
 ⟨(some 22),.pick (.tmp 19) (.const (.bool true)) (.tmp 21),none⟩,
 ⟨(some 23),.mov (.tmp 22),none⟩,
 ⟨(some 24),.mov (.tmp 1),(some (23,false))⟩,
 ⟨(some 25),.mov (.tmp 2),(some (23,false))⟩,
 ⟨(some 26),.bin .geq false (.tmp 24) (.tmp 25),(some (23,false))⟩,
 ⟨(some 27),.pick (.tmp 23) (.const (.bool true)) (.tmp 26),none⟩])
 (.cond (.tmp 27)
 (.seq
 (.reg 0 [
 ⟨none,.store 1 (.tmp 10) (.const (.bool false)),none⟩])
 .ret)
 .skip))
def c45b:LCode :=
 (.seq
 (.reg 1 [
 ⟨(some 12),.alloc 0 (.nilFunc),none⟩])
 (.seq
 (.reg 0 [
 ⟨(some 32),.fn 81 [(.tmp 5),(.tmp 11),(.tmp 12)],none⟩,
 ⟨none,.store 1 (.tmp 12) (.tmp 32),none⟩])
 (.seq
 (.tree 0
 (.take 0 [3,5,6] ⟨(some 33),.load none (.tmp 12),none⟩
 (.take 1 [3,5,6] ⟨(some 34),.mov (.tmp 1),none⟩
 (.take 2 [3,5,6] ⟨(some 35),.mov (.tmp 2),none⟩
 (.alt 3 ⟨(some 36),.callv (.tmp 33) [(.tmp 34),(.tmp 35)],none⟩ false
 (.take 4 [5,6] ⟨(some 37),.load (some 16) (.tmp 9),none⟩
 (.take 5 [6] ⟨(some 38),.prim (.aeq false ((List.range' 0 16).map fun i=>(i,(.int .u8)))) [(.tmp 36),(.tmp 37)],none⟩
 (.alt 6 ⟨none,.store 1 (.tmp 10) (.tmp 38),none⟩ false
 .done
 .none)))
 (.alt 4 ⟨(some 37),.load (some 16) (.tmp 9),none⟩ true
 (.alt 3 ⟨(some 36),.callv (.tmp 33) [(.tmp 34),(.tmp 35)],none⟩ false
 (.take 5 [6] ⟨(some 38),.prim (.aeq false ((List.range' 0 16).map fun i=>(i,(.int .u8)))) [(.tmp 36),(.tmp 37)],none⟩
 (.alt 6 ⟨none,.store 1 (.tmp 10) (.tmp 38),none⟩ false
 .done
 .none))
 .none)
 .none))))))
 .ret)))
def c45:LDf:=.seq ((.reg 3 [ ⟨(some 5),.box 0 (.tmp 0),none⟩,⟨(some 9),.box 1 (.tmp 4),none⟩,⟨(some 10),.alloc 2 (.bool false),none⟩])) (.seq c45a (.seq ((.reg 2 [ ⟨(some 28),.mov (.tmp 3),none⟩,⟨(some 29),.build [.slice none 0 0,.bool false] [(0,1,(.tmp 28))],none⟩,⟨(some 30),.box 0 (.tmp 29),none⟩,⟨(some 11),.alloc 1 (.pointer none),none⟩,⟨none,.store 1 (.tmp 11) (.tmp 30),none⟩])) (.dfr 0 [⟨(some 31),.load none (.tmp 11),none⟩] 80 [(.tmp 31),(.tmp 10)] c45b)))
def c80:List aH:=[ ⟨(some 4),.mov (.tmp 1),none⟩,⟨(some 5),.mov (.tmp 1),none⟩,⟨(some 6),.nilc (.tmp 5),none⟩,⟨(some 7),.load none (.tmp 6),none⟩,⟨(some 8),.mov (.tmp 7),none⟩,⟨(some 9),.mov (.tmp 0),(some (8,true))⟩,⟨(some 10),.nilc (.tmp 9),(some (8,true))⟩,⟨(some 11),.fld 1 (.tmp 10),(some (8,true))⟩,⟨(some 12),.load none (.tmp 11),(some (8,true))⟩,⟨(some 13),.not (.tmp 12),(some (8,true))⟩,⟨(some 14),.pick (.tmp 8) (.tmp 13) (.const (.bool false)),none⟩,⟨(some 15),.mov (.tmp 14),none⟩,⟨(some 16),.mov (.tmp 0),(some (15,true))⟩,⟨(some 17),.nilc (.tmp 16),(some (15,true))⟩,⟨(some 18),.fld 0 (.tmp 17),(some (15,true))⟩,⟨(some 19),.load none (.tmp 18),(some (15,true))⟩,⟨(some 20),.len (.tmp 19),(some (15,true))⟩,⟨(some 21),.bin .eql false (.tmp 20) (.const (.int .i64 0)),(some (15,true))⟩,⟨(some 22),.pick (.tmp 15) (.tmp 21) (.const (.bool false)),none⟩,⟨(some 23),.nilc (.tmp 4),none⟩,⟨none,.store 1 (.tmp 23) (.tmp 22),none⟩]
theorem lw45:afO Tryz.prog 45 c45=some (c45,[.cell 10 none],39):=by kernel_rfl
theorem lw80:afN Tryz.prog 80 c80=some (c80,[],24):=by kernel_rfl
end Go.Fx.Q
namespace Go.Fx.Q
open Go Go.Fx Go.Fx.K Go.Proofs Go.Fx.R
set_option maxRecDepth 20000
theorem r82:OkN Tryz.prog 82 [.ptr 0 0 0] [.var [.ro 16 [d5],.b false]] [] (IsA (.agg d5) [.var [.ro 16 [],.b false]]):=by
 refine cO pol [0] lw82 (by simp) ⟨trivial,trivial⟩ (fun k hk hm=>by simp at hk ⊢;omega) ?_
 unfold c82
 simp -implicitDefEqProofs only [rX,↓rY,aA,cells?,splice,↓reduceIte,Nat.reduceEqDiff,Nat.reduceAdd,reduceCtorEq,aF,bN,bJ,aY,a7,leH,leB,leV,cI,aD,aC,wfB,wfV,wfL,isC,Nat.reduceLT,Nat.reduceLeDiff,cxN,aO,yad,yag,bC,yaf,yah,yai,yab,yak,yax,yam,yaB,reduceIte,Nat.reduceAdd,yal,Nat.reduceLeDiff,Nat.reduceLT,yaj,yae,yac,wg,lo,Fx.hi,yaa,yaq,yaA,exists_prop,maxLen,yan,true_implies,isC,yao,yat,yas,o4,roF,d5,aQ,aP]
abbrev hC (x:List V) (l:List (List V)):List Blk:=[.var x,.var [.ptr 3 0 0],.var [.clo 81 [.ptr 0 0 0,.ptr 1 0 0,.ptr 2 0 0]],.var [.ro 16 l,.b false]]
theorem akD (x:List V) (h:x=d2∨x=d3):OkN Tryz.prog 81 [.i 0,.i 1,.ptr 0 0 0,.ptr 1 0 0,.ptr 2 0 0] (hC x []) [] (IsA (.agg x) (hC x [])):=by
 refine cO pol [0,1,2,3] lw81 (by simp) ⟨trivial,trivial,trivial,trivial,trivial⟩ (fun k hk hm=>by simp at hk ⊢;omega) ?_
 unfold c81
 rcases h with rfl|rfl<;>simp -implicitDefEqProofs only [rX,↓rY,aA,cells?,splice,↓reduceIte,Nat.reduceEqDiff,Nat.reduceAdd,reduceCtorEq,aF,aY,a7,leH,leB,leV,cI,aD,aC,wfB,wfV,wfL,isC,cxN,aO,yad,yag,bC,yab,BEq.rfl,reduceIte,Nat.reduceAdd,yaj,yae,yac,we,yaa,yaA,isC,d2,d3,aQ,aP]
set_option maxHeartbeats 4000000 in
theorem akC (x y:List V) (h:x=d2∧y=d6∨x=d3∧y=d7):OkN Tryz.prog 81 [.i 2,.i 3,.ptr 0 0 0,.ptr 1 0 0,.ptr 2 0 0] (hC x [d5]) [] (IsA (.agg y) (hC x [])):=by
 refine cO pol [0,1,2,3] lw81 (by simp) ⟨trivial,trivial,trivial,trivial,trivial⟩ (fun k hk hm=>by simp at hk ⊢;omega) ?_
 unfold c81
 rcases h with ⟨rfl,rfl⟩|⟨rfl,rfl⟩
 all_goals
  simp -implicitDefEqProofs only [rX,↓rY,aA,cells?,splice,↓reduceIte,Nat.reduceEqDiff,Nat.reduceAdd,reduceCtorEq,aF,aY,a7,leH,leB,leV,cI,aD,aC,wfB,wfV,wfL,isC,cxN,aO,yad,yag,bC,yab,yax,reduceIte,Nat.reduceAdd,yae,yac,wg,yaa,yaA,isC,d2,d3,aQ,aP]
  repeat' first
   | with_reducible refine And.intro ?_ ?_
   | ((with_reducible show aR _ 77 _ _ _);refine aJ (r77 2 (.inr rfl)) ?_ ?_ ?_ ?_;(focus simp [aE,aG,aL,a6,blk,wkL,wk,wkR,wkB,d0,d1,d2,d3,d4,d5,d6,d7,d8,d9,aQ,aP,d2,d3,d5,d6,d7,aQ,aP];done);(focus rfl);(focus simp [aD,aC];done))
   | ((with_reducible show aR _ 82 _ _ _);refine bU [3] (r82) ?_ rfl ?_ ?_ ?_ ?_;(focus simp;done);(focus simp [aE,aG,aL,a6,blk,wkL,wk,wkR,wkB,d0,d1,d2,d3,d4,d5,d6,d7,d8,d9,aQ,aP,pos,d2,d3,d5,d6,d7,aQ,aP];done);(focus simp;done);(focus simp [aN,bA,aD,aC];done))
   | ((with_reducible show aR _ 81 _ _ _);refine bU [0,1,2,3] (akD _ (.inl rfl)) ?_ rfl ?_ ?_ ?_ ?_;(focus simp;done);(focus simp [aE,aG,aL,a6,blk,wkL,wk,wkR,wkB,d0,d1,d2,d3,d4,d5,d6,d7,d8,d9,aQ,aP,pos,d2,d3,d5,d6,d7,aQ,aP];done);(focus simp;done);(focus simp [aN,bA,aD,aC];done))
   | ((with_reducible show aR _ 81 _ _ _);refine bU [0,1,2,3] (akD _ (.inr rfl)) ?_ rfl ?_ ?_ ?_ ?_;(focus simp;done);(focus simp [aE,aG,aL,a6,blk,wkL,wk,wkR,wkB,d0,d1,d2,d3,d4,d5,d6,d7,d8,d9,aQ,aP,pos,d2,d3,d5,d6,d7,aQ,aP];done);(focus simp;done);(focus simp [aN,bA,aD,aC];done))
   | ((with_reducible show aR _ 78 _ _ _);refine aJ (N6) ?_ ?_ ?_ ?_;(focus simp [aE,aG,aL,a6,blk,wkL,wk,wkR,wkB,d0,d1,d2,d3,d4,d5,d6,d7,d8,d9,aQ,aP,d2,d3,d5,d6,d7,aQ,aP];done);(focus rfl);(focus simp [aD,aC];done))
   | ((with_reducible show aR _ 78 _ _ _);refine aJ (N7) ?_ ?_ ?_ ?_;(focus simp [aE,aG,aL,a6,blk,wkL,wk,wkR,wkB,d0,d1,d2,d3,d4,d5,d6,d7,d8,d9,aQ,aP,d2,d3,d5,d6,d7,aQ,aP];done);(focus rfl);(focus simp [aD,aC];done))
   | simp -implicitDefEqProofs only [rX,↓rY,rdK,aA,cells?,splice,↓reduceIte,Nat.reduceEqDiff,Nat.reduceAdd,reduceCtorEq,aF,aY,a7,leH,leB,leV,cI,aD,aC,wfB,wfV,wfL,isC,Nat.reduceLT,ren,bZ,bA,back,aN,yad,yag,bC,yaf,yah,yai,yab,yak,yam,decide_false,reduceIte,Nat.reduceAdd,yal,Nat.reduceLT,yaj,yae,yac,wg,lo,Fx.hi,yaa,yaA,isC,d2,d3,d5,d6,d7,aQ,aP]
   | rfl
theorem r80 (b:Bool):CD0 Tryz.prog 80 [.ptr 0 0 0,.ptr 1 0 0] [.var [.ro 16 [],.b false],.var [.b b]] [] (IsA (.tup []) [.var [.ro 16 [],.b false],.var [.b b]]):=by
 refine ahM [0,1] lw80 (by simp) ⟨trivial,trivial,trivial⟩ (fun k hk hm=>by simp at hk ⊢;omega) ?_
 unfold c80
 cases b<;>simp -implicitDefEqProofs only [rX,↓rY,aA,cells?,splice,↓reduceIte,Nat.reduceEqDiff,Nat.reduceAdd,reduceCtorEq,aY,a7,leH,leB,leV,cI,aD,aC,wfB,wfV,wfL,isC,Nat.reduceLeDiff,cxN,aO,yad,yag,bC,yaf,yab,yak,BEq.rfl,reduceIte,Nat.reduceAdd,yal,Nat.reduceLeDiff,yaj,yac,we,wg,yaa,maxLen,yan,true_implies,isC]
theorem r45 (x y:List V) (b:Bool) (h:(x=d2∧y=d6)∧b=true∨(x=d3∧y=d7)∧b=false):Ok 45 [.agg x,.i 2,.i 3,.ro 16 [d5],.agg d6] (Is (.b b)):=by
 refine abB pol [] lw45 (by simp) trivial (by simp) ?_
 unfold c45 c45a c45b
 rcases h with ⟨⟨rfl,rfl⟩,rfl⟩|⟨⟨rfl,rfl⟩,rfl⟩
 all_goals
  simp -implicitDefEqProofs only [rX,↓rY,rdK,aA,cells?,splice,↓reduceIte,Nat.reduceEqDiff,Nat.reduceAdd,reduceCtorEq,aF,bJ,aY,a7,wfV,isC,Nat.reduceLT,Nat.reduceLeDiff,cxN,aO,yad,yag,yah,yai,yab,decide_false,reduceIte,Nat.reduceAdd,Nat.reduceLeDiff,Nat.reduceLT,yaj,yae,yac,we,wg,yaa,isC,yaJ,yaK,Zi,d2,d3,d6,aQ,aP]
  refine ⟨[3,2],_,⟨rfl,rfl⟩,⟨trivial,trivial,trivial⟩,?_⟩
  repeat' first
   | with_reducible refine And.intro ?_ ?_
   | ((with_reducible show aR _ 81 _ _ _);refine bU [0,4,5,3] (akC _ _ (.inl ⟨rfl,rfl⟩)) ?_ rfl ?_ ?_ ?_ ?_;(focus simp;done);(focus simp [aE,aG,aL,a6,blk,wkL,wk,wkR,wkB,d0,d1,d2,d3,d4,d5,d6,d7,d8,d9,aQ,aP,pos,d6,d7,aQ,aP];done);(focus simp;done);(focus simp [aN,bA,aD,aC];done))
   | ((with_reducible show aR _ 81 _ _ _);refine bU [0,4,5,3] (akC _ _ (.inr ⟨rfl,rfl⟩)) ?_ rfl ?_ ?_ ?_ ?_;(focus simp;done);(focus simp [aE,aG,aL,a6,blk,wkL,wk,wkR,wkB,d0,d1,d2,d3,d4,d5,d6,d7,d8,d9,aQ,aP,pos,d6,d7,aQ,aP];done);(focus simp;done);(focus simp [aN,bA,aD,aC];done))
   | ((with_reducible show aR _ 80 _ _ _);refine bU [3,2] (r80 true) ?_ rfl ?_ ?_ ?_ ?_;(focus simp;done);(focus simp [aE,aG,aL,a6,blk,wkL,wk,wkR,wkB,d0,d1,d2,d3,d4,d5,d6,d7,d8,d9,aQ,aP,pos,d6,d7,aQ,aP];done);(focus simp;done);(focus simp [aN,bA,aD,aC];done))
   | ((with_reducible show aR _ 80 _ _ _);refine bU [3,2] (r80 false) ?_ rfl ?_ ?_ ?_ ?_;(focus simp;done);(focus simp [aE,aG,aL,a6,blk,wkL,wk,wkR,wkB,d0,d1,d2,d3,d4,d5,d6,d7,d8,d9,aQ,aP,pos,d6,d7,aQ,aP];done);(focus simp;done);(focus simp [aN,bA,aD,aC];done))
   | simp -implicitDefEqProofs only [rX,↓rY,rdK,cells?,splice,↓reduceIte,Nat.reduceEqDiff,Nat.reduceAdd,aY,a7,wfV,isC,ren,bZ,bA,back,aN,yad,yag,yab,yax,BEq.rfl,reduceIte,Nat.reduceAdd,yaj,yae,yac,yaa,isC,rG,rH,Br,l7,d6,d7,aQ,aP]
   | rfl
theorem r17 (p:Bs) (x:List V) (z:Int) (h:(p=[105,106]∧x=d2)∧z=0∨(p=[105,120]∧x=d3)∧z=8):Ok 17 [.agg mA,.i 2,sv p,.ro 16 [d5]] (Is (.i z)):=by
 refine bO lw17 (by simp) ?_
 unfold c17
 rcases h with ⟨⟨rfl,rfl⟩,rfl⟩|⟨⟨rfl,rfl⟩,rfl⟩
 all_goals
  simp -implicitDefEqProofs only [rX,↓rY,aA,cells?,↓reduceIte,Nat.reduceEqDiff,Nat.reduceAdd,reduceCtorEq,aF,cxN,aO,yab,reduceIte,Nat.reduceAdd,yae,yac,yaa,d6,aQ,aP]
  repeat' first
   | with_reducible refine And.intro ?_ ?_
   | ((with_reducible show aR _ 16 _ _ _);refine aJ (r16) ?_ ?_ ?_ ?_;(focus simp [aE,aG,aL,a6,blk,wkL,wk,wkR,wkB,d0,d1,d2,d3,d4,d5,d6,d7,d8,d9,aQ,aP,d2,d3,d5,d6,d7,aQ,aP];done);(focus rfl);(focus simp [aD,aC];done))
   | ((with_reducible show aR _ 15 _ _ _);refine aJ (r15) ?_ ?_ ?_ ?_;(focus simp [aE,aG,aL,a6,blk,wkL,wk,wkR,wkB,d0,d1,d2,d3,d4,d5,d6,d7,d8,d9,aQ,aP,d2,d3,d5,d6,d7,aQ,aP];done);(focus rfl);(focus simp [aD,aC];done))
   | ((with_reducible show aR _ 46 _ _ _);refine aJ (L2) ?_ ?_ ?_ ?_;(focus simp [aE,aG,aL,a6,blk,wkL,wk,wkR,wkB,d0,d1,d2,d3,d4,d5,d6,d7,d8,d9,aQ,aP,d2,d3,d5,d6,d7,aQ,aP];done);(focus rfl);(focus simp [aD,aC];done))
   | ((with_reducible show aR _ 46 _ _ _);refine aJ (L3) ?_ ?_ ?_ ?_;(focus simp [aE,aG,aL,a6,blk,wkL,wk,wkR,wkB,d0,d1,d2,d3,d4,d5,d6,d7,d8,d9,aQ,aP,d2,d3,d5,d6,d7,aQ,aP];done);(focus rfl);(focus simp [aD,aC];done))
   | ((with_reducible show aR _ 45 _ _ _);refine aJ (r45 _ _ _ (.inl ⟨⟨rfl,rfl⟩,rfl⟩)) ?_ ?_ ?_ ?_;(focus simp [aE,aG,aL,a6,blk,wkL,wk,wkR,wkB,d0,d1,d2,d3,d4,d5,d6,d7,d8,d9,aQ,aP,d2,d3,d5,d6,d7,aQ,aP];done);(focus rfl);(focus simp [aD,aC];done))
   | ((with_reducible show aR _ 45 _ _ _);refine aJ (r45 _ _ _ (.inr ⟨⟨rfl,rfl⟩,rfl⟩)) ?_ ?_ ?_ ?_;(focus simp [aE,aG,aL,a6,blk,wkL,wk,wkR,wkB,d0,d1,d2,d3,d4,d5,d6,d7,d8,d9,aQ,aP,d2,d3,d5,d6,d7,aQ,aP];done);(focus rfl);(focus simp [aD,aC];done))
   | simp -implicitDefEqProofs only [rX,↓rY,qg,rdK,aA,cells?,splice,↓reduceIte,Nat.reduceEqDiff,Nat.reduceAdd,reduceCtorEq,aF,aY,a7,wfV,isC,bP,yad,yag,yaf,yai,yab,yak,yax,yaD,yam,yaB,reduceIte,Nat.reduceAdd,yal,yaj,yae,yac,we,wg,lo,Fx.hi,yaa,isC,d2,d3,d5,d6,aQ,aP]
   | rfl
end Go.Fx.Q
namespace Go.Proofs
open Go.Shelf
def Tryz.bldRen:Go.Shelf.Ren:=⟨fun|166=>56|240=>90|276=>115|169=>58|170=>57|n=>n,fun|0=>0|3=>3|4=>4|9=>9|20=>20|5=>5|37=>87|70=>125|72=>127|75=>129|76=>130|80=>132|164=>197|127=>169|n=>n,fun|n=>n⟩
theorem Tryz.bld166:Go.Proofs.Lays.n166 Tryz.prog Tryz.bldRen:={
 mixed:=by kernel_rfl
 f166:=Tryz.func56.trans (congrArg some (by kernel_rfl))
 f240:=Tryz.func90.trans (congrArg some (by kernel_rfl))
 f276:=Tryz.func115.trans (congrArg some (by kernel_rfl))
 t0:=Tryz.underlying0
 a0:=Tryz.isAgg0
 z0:=Tryz.sizeOf0
 v0:=Tryz.zeroValue0
 t3:=Tryz.underlying3
 a3:=Tryz.isAgg3
 z3:=Tryz.sizeOf3
 v3:=Tryz.zeroValue3
 t4:=Tryz.underlying4
 a4:=Tryz.isAgg4
 z4:=Tryz.sizeOf4
 v4:=Tryz.zeroValue4
 t9:=Tryz.underlying9
 a9:=Tryz.isAgg9
 z9:=Tryz.sizeOf9
 v9:=Tryz.zeroValue9
 t20:=Tryz.underlying20
 a20:=Tryz.isAgg20
 z20:=Tryz.sizeOf20
 v20:=Tryz.zeroValue20
 t37:=Tryz.underlying87
 a37:=Tryz.isAgg87
 z37:=Tryz.sizeOf87
 v37:=Tryz.zeroValue87
 t70:=Tryz.underlying125
 a70:=Tryz.isAgg125
 z70:=Tryz.sizeOf125
 v70:=Tryz.zeroValue125
 t72:=Tryz.underlying127
 a72:=Tryz.isAgg127
 z72:=Tryz.sizeOf127
 v72:=Tryz.zeroValue127
 t75:=Tryz.underlying129
 a75:=Tryz.isAgg129
 z75:=Tryz.sizeOf129
 v75:=Tryz.zeroValue129
 t164:=Tryz.underlying197
 a164:=Tryz.isAgg197
 z164:=Tryz.sizeOf197
 v164:=Tryz.zeroValue197 }
theorem Tryz.bld169:Go.Proofs.Lays.n169 Tryz.prog Tryz.bldRen:={
 mixed:=by kernel_rfl
 f169:=Tryz.func58.trans (congrArg some (by kernel_rfl))
 t0:=Tryz.underlying0
 a0:=Tryz.isAgg0
 z0:=Tryz.sizeOf0
 v0:=Tryz.zeroValue0
 t3:=Tryz.underlying3
 a3:=Tryz.isAgg3
 z3:=Tryz.sizeOf3
 v3:=Tryz.zeroValue3
 t9:=Tryz.underlying9
 a9:=Tryz.isAgg9
 z9:=Tryz.sizeOf9
 v9:=Tryz.zeroValue9
 t37:=Tryz.underlying87
 a37:=Tryz.isAgg87
 z37:=Tryz.sizeOf87
 v37:=Tryz.zeroValue87
 t70:=Tryz.underlying125
 a70:=Tryz.isAgg125
 z70:=Tryz.sizeOf125
 v70:=Tryz.zeroValue125
 t72:=Tryz.underlying127
 a72:=Tryz.isAgg127
 z72:=Tryz.sizeOf127
 v72:=Tryz.zeroValue127
 t127:=Tryz.underlying169
 a127:=Tryz.isAgg169
 z127:=Tryz.sizeOf169
 v127:=Tryz.zeroValue169 }
theorem Tryz.bld170:Go.Proofs.Lays.n170 Tryz.prog Tryz.bldRen:={
 mixed:=by kernel_rfl
 f170:=Tryz.func57.trans (congrArg some (by kernel_rfl))
 t0:=Tryz.underlying0
 a0:=Tryz.isAgg0
 z0:=Tryz.sizeOf0
 v0:=Tryz.zeroValue0
 t3:=Tryz.underlying3
 a3:=Tryz.isAgg3
 z3:=Tryz.sizeOf3
 v3:=Tryz.zeroValue3
 t37:=Tryz.underlying87
 a37:=Tryz.isAgg87
 z37:=Tryz.sizeOf87
 v37:=Tryz.zeroValue87
 t70:=Tryz.underlying125
 a70:=Tryz.isAgg125
 z70:=Tryz.sizeOf125
 v70:=Tryz.zeroValue125
 t72:=Tryz.underlying127
 a72:=Tryz.isAgg127
 z72:=Tryz.sizeOf127
 v72:=Tryz.zeroValue127 }
theorem Tryz.bldX:Builder.Extra Tryz.prog Tryz.bldRen:={
 sizeBuilder:=by kernel_rfl
 liesBuilder:=by kernel_rfl
 t5:=Tryz.underlying5
 a5:=Tryz.isAgg5
 z5:=Tryz.sizeOf5
 v5:=Tryz.zeroValue5
 infoByte:=by kernel_rfl
 cellsByte:=by kernel_rfl
 sizeByte:=by kernel_rfl
 neB5:=by decide }
end Go.Proofs
namespace Go.Fx.Q
open Go Go.Fx Go.Fx.K Go.Proofs Go.RowKit
abbrev Op:=Int × Int × Bs
abbrev enO (x:Op):List V:=[.i x.1,.i x.2.1,sv x.2.2]
abbrev rO (l:List Op):V:=.ro 3 (l.map enO)
def pe (a b:Bs) (s:Int) (o:V):List V:=us a++(us b++[.i s,o])
abbrev dig (t:Bs):Bs:=cF 34 [t]
def acP (old:Bs) (x:Op):Prop:=(x.2.2=[]∧(x.1<0∨x.1≥x.2.1∨x.2.1>old.length))∨(x.2.2≠[]∧(x.1≠0∨x.2.1≠0))
instance {old:Bs} {x:Op}:Decidable (acP old x):=inferInstanceAs (Decidable (_∨_))
def iB (old:Bs) (x:Op):Bs:=if x.2.2=[] then (old.take x.2.1.toNat).drop x.1.toNat else x.2.2
def apN (old:Bs):List Op→Bs→Option Bs
 | [],o=>some o
 | x::r,o=>if acP old x then none else if 65536<(o++iB old x).length then none else apN old r (o++iB old x)
def apE (old a b:Bs) (s:Int) (l:List Op):Int :=
 if dig old≠a then 8 else match apN old l [] with
  | none=>3
  | some t=>if (t.length:Int)≠s then 3 else if dig t≠b then 8 else 0
def apR (old a b:Bs) (s:Int) (l:List Op):Bs:=if apE old a b s l≠0 then [] else (apN old l []).getD []
theorem Zk {old:Bs} {l:List Op} {k:Nat} {o:Bs} (h:k<l.length):apN old (l.drop k) o=if acP old l[k] then none else if 65536<(o++iB old l[k]).length then none else apN old (l.drop (k+1)) (o++iB old l[k]):=by
 rw [List.drop_eq_getElem_cons h];rfl
theorem Ik {w w':World} {ρ:Nat→Loc} {X:Nat→Prop} (hr:Rep ρ X w []) (h:Below w.heap.size w w'):Fr ρ w ρ w':=⟨h.os,h.tape,h.output,h.size,fun b hb ho=>⟨h.block b hb,ho⟩⟩
theorem Eb {w w':World} {ρ:Nat→Loc} {X:Nat→Prop} (hr:Rep ρ X w []) (h:Below w.heap.size w w'):Rep ρ X w' [] :=
 ⟨hr.inj,hr.out,fun k b hk=>by simp at hk,hr.disj,fun k hk=>yaV (hr.lt k hk) h.size,hr.xfr (Ik hr h)⟩
theorem Zg {w w':World} {ρ ρ':Nat→Loc} {X:Nat→Prop} (hr:Rep ρ X w []) (h:Fr ρ w ρ' w'):Below w.heap.size w w':=by
 have hown:∀ b,¬Own ρ b:=by
  rintro b ⟨k,hk,_⟩
  rw [hr.out k (yaR _)] at hk;cases hk
 exact ⟨h.os,h.tape,h.output,h.size,fun b hb=>(h.keep b hb (hown b)).1⟩
theorem aeB {w w1:World} {ρ:Nat→Loc} {X:Nat→Prop} (hr:Rep ρ X w []) (hb:Below w.heap.size w w1) (t:Bs) (h:t.length≤1000000) :
  Calls Tryz.prog 54 #[.string (sb t)] w1 fun e w2=>e=.returned (.agg ((dig t).map fun c=>Value.int .u8 c.toNat).toArray)∧Below w1.heap.size w1 w2:=by
 have hr1:=Eb hr hb
 refine Calls.mono ((alB t h).2 ρ X w1 [.string (sb t)] hr1 ⟨rfl,trivial⟩) ?_
 rintro e w2 ⟨val,r,h',ρ',rfl,⟨⟨rfl,rfl⟩,_⟩,hf,hr2,hv,_⟩
 refine ⟨?_,Zg hr1 hf⟩
 obtain ⟨a,rfl,ha⟩:=hv
 have:=oV (t:=dig t) ha
 unfold usV at this
 rw [←this]
set_option maxHeartbeats 4000000
set_option maxRecDepth 1000000
def pcs (a b:Bs) (s:Int) (o:Value):Array Value:=((a.map fun c=>Value.int .u8 c.toNat)++((b.map fun c=>Value.int .u8 c.toNat)++[.int .i64 s,o])).toArray
def Bx (B:Nat) (A A':List Value) (s:Int) (o:Value) (w:World):Prop:=w.rangeAt B 0 A∧w.rangeAt B 16 A'∧w.cell? ⟨B,32,none⟩=some (.int .i64 s)∧w.cell? ⟨B,33,none⟩=some o∧B<w.heap.size
theorem Bx.of {w:World} {a b:Bs} {s:Int} {o:Value} (ha:a.length=16) (hb:b.length=16):Bx w.heap.size (usV a) (usV b) s o (w.alloc (.cells (pcs a b s o) 64)).drew:=by
 have hbk:(w.alloc (.cells (pcs a b s o) 64)).drew.heap[w.heap.size]?=some (.cells (pcs a b s o) 64 (0,0)):=by
  show (w.heap.push _)[w.heap.size]?=_
  exact Array.getElem?_push_size
 have e0:((pcs a b s o).extract 0 (0+16)).toList=usV a:=by unfold pcs;simp [ha]
 have e1:((pcs a b s o).extract 16 (16+16)).toList=usV b:=by unfold pcs;simp [ha,hb]
 have e2:(pcs a b s o)[32]?=some (.int .i64 s):=by
  unfold pcs
  rw [ybb,yaU (by simp [ha]),yaU (by simp [ha,hb])]
  simp [ha,hb]
 have e3:(pcs a b s o)[33]?=some o:=by
  unfold pcs
  rw [ybb,yaU (by simp [ha]),yaU (by simp [ha,hb])]
  simp [ha,hb]
 refine ⟨?_,?_,?_,?_,?_⟩
 ·rw [←e0];exact World.rangeAt_of_block hbk 0 16
 ·rw [←e1];exact World.rangeAt_of_block hbk 16 16
 ·simp only [World.cell?,hbk];exact e2
 ·simp only [World.cell?,hbk];exact e3
 ·show w.heap.size<(w.heap.push _).size
  rw [Array.size_push];omega
theorem Bx.below {B:Nat} {A A':List Value} {s:Int} {o:Value} {w w':World} {n:Nat} (h:Bx B A A' s o w) (hb:Below n w w') (hn:B<n):Bx B A A' s o w':=by
 obtain ⟨h1,h2,h3,h4,h5⟩:=h
 refine ⟨fun j v hj=>?_,fun j v hj=>?_,?_,?_,yaV h5 hb.size⟩
 ·rw [hb.cell (p:=⟨B,0+j,none⟩) hn];exact h1 j v hj
 ·rw [hb.cell (p:=⟨B,16+j,none⟩) hn];exact h2 j v hj
 ·rw [hb.cell (p:=⟨B,32,none⟩) hn];exact h3
 ·rw [hb.cell (p:=⟨B,33,none⟩) hn];exact h4
theorem Tl {B b:Nat} {bs:List Value} {w:World} (h:Lib.IsBuilder 127 5 B b bs w) (ob:Obj):Lib.IsBuilder 127 5 B b bs (w.alloc ob):=by
 have one:∀ p,Lib.BuilderAt 127 5 B b p bs w→Lib.BuilderAt 127 5 B b p bs (w.alloc ob):=by
  intro p hp
  have hlt:=hp.lt
  obtain ⟨hB,v,hb,hown,hne⟩:=hp
  exact ⟨hB,v,by rw [Below.heap_alloc w ob b hlt];exact hb,hown.alloc ob,hne⟩
 exact h.imp (one _) (one _)
theorem amB {B:Nat} {A A':List Value} {s:Int} {o:Value} {w w' w1:World} (h:w'.rangeAt B 0 A∧Bx B A A' s o w'∧Below B w w') (hb:Below w'.heap.size w' w1):w1.rangeAt B 0 A∧Bx B A A' s o w1∧Below B w w1:=by
 have h2:=h.2.1.below hb h.2.1.2.2.2.2
 exact ⟨h2.1,h2,h.2.2.trans (hb.mono (yaQ h.2.1.2.2.2.2))⟩
theorem amA {B:Nat} {A A':List Value} {s:Int} {o:Value} {W w w' w1:World} (h:w'.rangeAt B 16 A'∧Bx B A A' s o w'∧Below W.heap.size W w'∧Below w.heap.size w w') (hb:Below w'.heap.size w' w1):w1.rangeAt B 16 A'∧Bx B A A' s o w1∧Below W.heap.size W w1∧Below w.heap.size w w1:=by
 have h2:=h.2.1.below hb h.2.1.2.2.2.2
 exact ⟨h2.2.1,h2,h.2.2.1.trans (hb.mono h.2.2.1.size),h.2.2.2.trans (hb.mono h.2.2.2.size)⟩
theorem agL {B:Nat} {A A':List Value} {s:Int} {o:Value} {W w w':World} (h:w'.rangeAt B 16 A'∧Bx B A A' s o w'∧Below W.heap.size W w'∧Below w.heap.size w w'):Below w.heap.size w w':=h.2.2.2
theorem acT {w:World} {ρ:Nat→Loc} {X:Nat→Prop} (hr:Rep ρ X w []) (old a b:Bs) (s:Int) (l:List Op) (blk off:Nat) (pp:Option Addr) (cap:Nat) (h1:old.length≤100000) (ha:a.length=16) (hb:b.length=16) (hl:l.length≤100000) (hx:∀ x∈l,x.2.2.length≤100000) (hpp:l≠[]→pp=some ⟨blk,off,none⟩) (hop:∀ k (h:k<l.length),w.cell? ⟨blk,off+k*3,none⟩=some (.int .i64 l[k].1)∧w.cell? ⟨blk,off+k*3+1,none⟩=some (.int .i64 l[k].2.1)∧w.cell? ⟨blk,off+k*3+2,none⟩=some (.string (sb l[k].2.2))∧blk<w.heap.size) :
  Calls Tryz.prog 22 #[.string (sb old),.agg (pcs a b s (.slice pp l.length cap))] w fun e w'=>e=.returned (.tuple #[.string (sb (apR old a b s l)),.int .i64 (apE old a b s l)])∧Below w.heap.size w w':=by
 go_enter Tryz.func22,Tryz.ntmps22
 go_wp2
 have u23:=Tryz.underlying45
 have hbx:=Bx.of (w:=w) (s:=s) (o:=.slice pp l.length cap) ha hb
 generalize pcs a b s (.slice pp l.length cap)=C at *
 have hbe:Below w.heap.size w (w.alloc (.cells C 64)).drew:=((Below.refl _ w).alloc (yaC _) _).drew
 have hdl:(dig old).length=16:=cJ
 have heq:=fun w1=>ahE hdl ha w1
 have heq2:=fun (t:Bs) w1=>ahE (a:=dig t) cJ hb w1
 have hdg2:∀ (t:Bs) w1,t.length≤65536→Below w.heap.size w w1→Calls Tryz.prog 54 #[.string (sb t)] w1 fun e w2=>e=.returned (.agg (usV (dig t)).toArray)∧Below w1.heap.size w1 w2:=fun t w1 ht hb=>aeB hr hb t (by omega)
 have hal:(usV a).length=16:=by rw [yaT,ha]
 have hbl:(usV b).length=16:=by rw [yaT,hb]
 have hdg:∀ w1,Below w.heap.size w w1→Calls Tryz.prog 54 #[.string (sb old)] w1 fun e w2=>e=.returned (.agg (usV (dig old)).toArray)∧Below w1.heap.size w1 w2:=fun w1 hb=>aeB hr hb old (by omega)
 generalize usV a=A at *
 generalize usV b=A' at *
 generalize usV (dig old)=D at *
 have i23:(Tryz.prog.info? 45).map (·.size)=some A.length:=by rw [hal];rfl
 go_region_held3 (fun w'=>w'.rangeAt w.heap.size 0 A∧Bx w.heap.size A A' s (.slice pp l.length cap) w'∧Below w.heap.size w w') (first|exact ⟨hbx.1,hbx,hbe⟩|exact amB (by assumption) (by assumption))
  (first|(go_at_call 54;refine (hdg _ ?_).mono ?_;(first|assumption|(rename_i hs;exact hs.2.2));rintro e w1 ⟨rfl,hb1⟩))
 rename_i w1 hs
 obtain ⟨-,hb1,hbw⟩:=hs
 have hB0:=hb1.2.2.2.2
 have hfb:Below w1.heap.size w1 (w1.alloc (Obj.cells #[Value.pointer none,Value.slice none 0 0] 127)):=(Below.refl _ w1).alloc (yaC _) _
 have c33:=(hb1.below hfb hB0).2.2.2.1
 by_cases hq:(!dig old==a)=true
 ·go_wp2
  ·go_ret2
   have h0:apE old a b s l=8:=by unfold apE;rw [if_pos (by simpa using hq)]
   have h9:apR old a b s l=[]:=by unfold apR;rw [if_pos (by rw [h0];decide)]
   rw [h0,h9]
   exact ⟨rfl,hbw⟩
  ·exfalso
   have hf:(!dig old==a)=false:=by assumption
   rw [hq] at hf;cases hf
 ·go_wp2
  have hdq:dig old=a:=by simpa using hq
  have hE0:apE old a b s l=match apN old l [] with
   | none=>3
   | some t=>if (t.length:Int)≠s then 3 else if dig t≠b then 8 else 0:=if_neg (by simp [hdq])
  have hwB:w.heap.size<w1.heap.size:=hB0
  have hqf:(!dig old==a)=false:=by simpa using hq
  rw [hqf]
  go_loopw [18] (fun i wr=>∃ (k:Nat) (o:Bs),i=.int .i64 k∧k≤l.length∧o.length≤65536∧apN old (l.drop k) o=apN old l []∧Lib.IsBuilder 127 5 w1.heap.size w1.heap.size (Lib.byteCells o) wr∧Below w1.heap.size w1 wr) (fun i _=>l.length-(Go.RowKit.intOf i).toNat)
  case atStart=>exact ⟨0,[],rfl,yaR _,by simp,rfl,Lib.fresh_isBuilder 127 5 w1,hfb⟩
  case round =>
   obtain ⟨k,o,rfl,hk,ho,hap,hI,hbwr⟩:=hrel
   by_cases hp:k<l.length
   ·rw [hpp (fun h=>by rw [h] at hp;exact yaM _ hp)]
    obtain ⟨p0,p1,p2,p3⟩:=hop k hp
    have hbb:=hbw.trans (hbwr.mono (yaQ hwB))
    rw [←hbb.cell (p:=⟨blk,off+k*3,none⟩) p3] at p0
    rw [←hbb.cell (p:=⟨blk,off+k*3+1,none⟩) p3] at p1
    rw [←hbb.cell (p:=⟨blk,off+k*3+2,none⟩) p3] at p2
    rw [Zk hp] at hap
    have hxk:=hx _ (List.getElem_mem hp)
    have hpt:(k:Int)<(l.length:Int):=by omega
    generalize l[k]=x at *
    by_cases hbad:acP old x
    ·rw [if_pos hbad] at hap
     have hap':none=apN old l []:=hap
     rw [←hap'] at hE0
     have hE3:apE old a b s l=3:=hE0
     have hR3:apR old a b s l=[]:=by unfold apR;rw [if_pos (by rw [hE3];decide)]
     have hend:∀ W,Below wr.heap.size wr W→Below w.heap.size w W:=fun W hW=>hbb.trans (hW.mono hbb.size)
     have hAl:Below wr.heap.size wr (wr.alloc (Obj.cells #[.int .i64 x.1,.int .i64 x.2.1,.string (sb x.2.2)] 69)):=(Below.refl _ wr).alloc (yaC _) _
     have hAl2:=hend _ hAl
     rcases hbad with ⟨he,hbd⟩|⟨he,hbd⟩
     ·have hS:(sb x.2.2).toList=[]:=by rw [dZ];exact he
      have hSz:((sb x.2.2).size:Int)=x.2.2.length:=rfl
      generalize sb x.2.2=S at *
      go_wp2_with fail
      all_goals (first|(go_ret2;exact ⟨rfl,hAl2⟩)|(exfalso;simp only [bP] at *;omega))
     ·have hS:¬(sb x.2.2).toList=[]:=by rw [dZ];exact he
      have hS2:(sb x.2.2).toList.isEmpty=false:=by rw [ybc];exact hS
      generalize sb x.2.2=S at *
      go_wp2_with fail
      all_goals (first|(go_ret2;exact ⟨rfl,hend _ ((Below.refl _ wr).alloc (yaC _) _)⟩)|skip)
    ·rw [if_neg hbad] at hap
     have hI2:=Tl hI (Obj.cells #[.int .i64 x.1,.int .i64 x.2.1,.string (sb x.2.2)] 69)
     have hA109:Below w1.heap.size w1 (wr.alloc (Obj.cells #[.int .i64 x.1,.int .i64 x.2.1,.string (sb x.2.2)] 69)):=hbwr.alloc hbwr.size _
     have hout:(iB old x).length≤100000:=by
      unfold iB
      split
      ·simp;omega
      ·exact hxk
     by_cases he:x.2.2=[]
     ·have hoe:iB old x=(old.take x.2.1.toNat).drop x.1.toNat:=if_pos he
      have hnb:0≤x.1∧x.1<x.2.1∧x.2.1≤old.length:=by
       have:¬(x.1<0∨x.1≥x.2.1∨x.2.1>old.length):=fun h=>hbad (.inl ⟨he,h⟩)
       omega
      have hS:(sb x.2.2).toList=[]:=by rw [dZ];exact he
      have hn1:=hnb.1
      have hn2:x.1≤x.2.1:=by omega
      have hn3:x.2.1≤((sb old).size:Int):=hnb.2.2
      have hn4:=hnb.2.1
      have hsx:(sb old).extract x.1.toNat x.2.1.toNat=sb (iB old x):=by rw [cN,hoe]
      clear hnb hoe
      generalize sb x.2.2=S at *
      go_wp2_with (go_at_call 56;refine (Any.Builder_WriteString Tryz.bld166 Tryz.bldX _ _ _ _ _ hI2 ?_ hA109.size).mono ?_)
      ·rw [Lib.byteCells_length];show o.length+(iB old x).length≤_;omega
      rintro e W1 ⟨rfl,h1b,b1⟩
      have hI3:Lib.IsBuilder 127 5 w1.heap.size w1.heap.size (Lib.byteCells (o++iB old x)) W1:=.inr (by rw [Lib.byteCells_append];exact h1b)
      have hB3:Below w1.heap.size w1 W1:=hA109.trans b1
      go_wp2_with (go_at_call 57;refine (Any.Builder_Len Tryz.bld170 _ _ _ _ hI3).mono ?_)
      rintro e W2 ⟨rfl,rfl⟩
      have hlo:((o++iB old x).length:Int)=(o.length:Int)+((iB old x).length:Int):=by rw [List.length_append];omega
      by_cases h65:65536<(o++iB old x).length
      ·rw [if_pos h65] at hap
       have hap':none=apN old l []:=hap
       rw [←hap'] at hE0
       have hE3:apE old a b s l=3:=hE0
       have hR3:apR old a b s l=[]:=by unfold apR;rw [if_pos (by rw [hE3];decide)]
       go_wp2
       ·go_ret2
        rw [hE3,hR3]
        exact ⟨rfl,hbw.trans (hB3.mono (yaQ hwB))⟩
       ·exfalso;have h3:=Lib.byteCells_length (o++iB old x);omega
      ·rw [if_neg h65] at hap
       go_wp2
       ·exfalso;have h3:=Lib.byteCells_length (o++iB old x);omega
       ·go_roundw
        case rel=>exact ⟨k+1,o++iB old x,by simp,by omega,by omega,hap,hI3,hB3⟩
        case measure=>simp only [Go.RowKit.intOf];omega
     ·have hoe:iB old x=x.2.2:=if_neg he
      have h0:x.1=0∧x.2.1=0:=by
       have:¬(x.1≠0∨x.2.1≠0):=fun h=>hbad (.inr ⟨he,h⟩)
       omega
      have hS:¬(sb x.2.2).toList=[]:=by rw [dZ];exact he
      have hS2:(sb x.2.2).toList.isEmpty=false:=by rw [ybc];exact hS
      obtain ⟨h01,h02⟩:=h0
      rw [←hoe] at hS hS2 hI2 hA109 p2
      rw [h01] at hI2 hA109 p0
      rw [h02] at hI2 hA109 p1
      clear hoe
      go_wp2_with (go_at_call 56;refine (Any.Builder_WriteString Tryz.bld166 Tryz.bldX _ _ _ _ _ hI2 ?_ hA109.size).mono ?_)
      ·rw [Lib.byteCells_length];show o.length+(iB old x).length≤_;omega
      rintro e W1 ⟨rfl,h1b,b1⟩
      have hI3:Lib.IsBuilder 127 5 w1.heap.size w1.heap.size (Lib.byteCells (o++iB old x)) W1:=.inr (by rw [Lib.byteCells_append];exact h1b)
      have hB3:Below w1.heap.size w1 W1:=hA109.trans b1
      go_wp2_with (go_at_call 57;refine (Any.Builder_Len Tryz.bld170 _ _ _ _ hI3).mono ?_)
      rintro e W2 ⟨rfl,rfl⟩
      have hlo:((o++iB old x).length:Int)=(o.length:Int)+((iB old x).length:Int):=by rw [List.length_append];omega
      by_cases h65:65536<(o++iB old x).length
      ·rw [if_pos h65] at hap
       have hap':none=apN old l []:=hap
       rw [←hap'] at hE0
       have hE3:apE old a b s l=3:=hE0
       have hR3:apR old a b s l=[]:=by unfold apR;rw [if_pos (by rw [hE3];decide)]
       go_wp2
       ·go_ret2
        rw [hE3,hR3]
        exact ⟨rfl,hbw.trans (hB3.mono (yaQ hwB))⟩
       ·exfalso;have h3:=Lib.byteCells_length (o++iB old x);omega
      ·rw [if_neg h65] at hap
       go_wp2
       ·exfalso;have h3:=Lib.byteCells_length (o++iB old x);omega
       ·go_roundw
        case rel=>exact ⟨k+1,o++iB old x,by simp,by omega,by omega,hap,hI3,hB3⟩
        case measure=>simp only [Go.RowKit.intOf];omega
   ·have hke:k=l.length:=by omega
    subst hke
    rw [List.drop_length] at hap
    have hap':some o=apN old l []:=hap
    rw [←hap'] at hE0
    simp only at hE0
    go_wp2_with (go_at_call 58;refine (Any.Builder_String_any_f Tryz.bld169 Tryz.bldX _ _ o _ (Lib.IsBuilderF.of hI) hbwr.size).mono ?_)
    rintro e W1 ⟨rfl,hF,b1⟩
    have hB3:Below w1.heap.size w1 W1:=hbwr.trans b1
    have hbx1:=hb1.below hB3 hB0
    have c32:=hbx1.2.2.1
    have hbw1:Below w.heap.size w W1:=hbw.trans (hB3.mono (yaQ hwB))
    have hs1:W1.drew.rangeAt w.heap.size 16 A'∧Bx w.heap.size A A' s (.slice pp l.length cap) W1.drew∧Below W1.heap.size W1 W1.drew∧Below w.heap.size w W1.drew:=⟨(hbx1.below ((Below.refl W1.heap.size W1).drew) hbx1.2.2.2.2).2.1,hbx1.below ((Below.refl W1.heap.size W1).drew) hbx1.2.2.2.2,(Below.refl _ _).drew,hbw1.drew⟩
    have heq3:=heq2 o
    have hdg3:=fun w'=>hdg2 o w' ho
    generalize usV (dig o)=D3 at *
    have i23':(Tryz.prog.info? 45).map (·.size)=some A'.length:=by rw [hbl];rfl
    go_wp2
    ·have hne:(o.length:Int)≠s:=by
      have hn:¬(((({ data:=yaW o }:ByteArray).size:Nat):Int)=s):=by first|assumption|(simp only [bP] at *;assumption)|(simp at *;assumption)
      exact hn
     rw [if_pos hne] at hE0
     have hR3:apR old a b s l=[]:=by unfold apR;rw [if_pos (by rw [hE0];decide)]
     go_ret2
     rw [hE0,hR3]
     exact ⟨rfl,hbw1⟩
    ·show Code.wp _ _ _ _ _
     go_region_held3 (fun w'=>w'.rangeAt w.heap.size 16 A'∧Bx w.heap.size A A' s (.slice pp l.length cap) w'∧Below W1.heap.size W1 w'∧Below w.heap.size w w') (first|exact hs1|exact amA (by assumption) (by assumption))
      (first|(go_at_call 54;refine (hdg3 _ ?_).mono ?_;(exact agL (by assumption));rintro e w1 ⟨rfl,hb1⟩))
     rename_i W2 hs2
     obtain ⟨-,-,hb2,hbw2⟩:=hs2
     by_cases hq2:(!dig o==b)=true
     ·go_wp2
      ·have hs2:(o.length:Int)=s:=by
        have hn:(((({ data:=yaW o }:ByteArray).size:Nat):Int)=s):=by first|assumption|(simp only [bP] at *;assumption)|(simp at *;assumption)
        exact hn
       have hdb:dig o≠b:=by simpa using hq2
       rw [if_neg (by simpa using hs2),if_pos hdb] at hE0
       have hR8:apR old a b s l=[]:=by unfold apR;rw [if_pos (by rw [hE0];decide)]
       go_ret2
       rw [hE0,hR8]
       exact ⟨rfl,hbw2⟩
      ·exfalso
       have hf:(!dig o==b)=false:=by assumption
       rw [hq2] at hf;cases hf
     ·have hqf2:(!dig o==b)=false:=by simpa using hq2
      have hF2:=hF.below hb2
      have hdb:dig o=b:=by simpa using hqf2
      have hR0:apE old a b s l=0→apR old a b s l=o:=by
       intro h
       unfold apR
       rw [if_neg (by rw [h];decide),←hap']
       rfl
      have hs2:(o.length:Int)=s:=by
       have hn:(((({ data:=yaW o }:ByteArray).size:Nat):Int)=s):=by first|assumption|(simp only [bP] at *;assumption)|(simp at *;assumption)
       exact hn
      rw [if_neg (by simpa using hs2),if_neg (by simp [hdb])] at hE0
      go_wp2_with (go_at_call 58;refine (Any.Builder_String_any_f Tryz.bld169 Tryz.bldX _ _ o _ hF2 (Nat.le_trans hB3.size hb2.size)).mono ?_)
      rintro e W3 ⟨rfl,hF3,b3⟩
      go_wp2
      all_goals go_ret2
      rw [hR0 hE0,hE0]
      exact ⟨rfl,hbw2.trans (b3.mono (Nat.le_trans (yaQ hwB) (yaC _)))⟩
def A22:Prop:=∀ (old a b:Bs) (s:Int) (l:List Op),old.length≤1000→a.length=16→b.length=16→l.length≤1000→(∀ x∈l,x.2.2.length≤1000)→Ok 22 [sv old,.agg (pe a b s (rO l))] (Is (.tup [sv (apR old a b s l),.i (apE old a b s l)]))
section
variable {ρ:Nat→Loc} {X:Nat→Prop} {w:World}
theorem uR:∀ {x y:List V} {vs:List Value},bL ρ X w (x++y) vs→∃ u v,vs=u++v∧bL ρ X w x u∧bL ρ X w y v
 | [],y,vs,h=>⟨[],vs,rfl,by simp only [bL],h⟩
 | x::r,y,[],h=>by simp only [List.cons_append,bL] at h
 | x::r,y,v::vs,h=>by
  simp only [List.cons_append,bL] at h
  obtain ⟨u,v',e,h1,h2⟩:=uR h.2
  exact ⟨v::u,v',by rw [e];rfl,by simp only [bL];exact ⟨h.1,h1⟩,h2⟩
theorem Mn {S:Nat→Prop} {b:Nat}:∀ {l:List Op} {off:Nat},cP S w 3 b off (l.map enO)→∀ k (h:k<l.length),w.cell? ⟨b,off+k*3,none⟩=some (.int .i64 l[k].1)∧w.cell? ⟨b,off+k*3+1,none⟩=some (.int .i64 l[k].2.1)∧w.cell? ⟨b,off+k*3+2,none⟩=some (.string (sb l[k].2.2))
 | [],_,_,k,h=>absurd h (yaM _)
 | x::r,off,hr,k,h=>by
  obtain ⟨⟨_,⟨v1,c1,d1⟩,⟨v2,c2,d2⟩,⟨v3,c3,d3⟩,_⟩,h3⟩:=hr
  cases k with
  | zero =>
   obtain rfl:v1=_:=d1.1
   obtain rfl:v2=_:=d2.1
   obtain rfl:v3=_:=d3.1
   rw [Nat.zero_mul,Nat.add_zero]
   exact ⟨c1,c2,c3⟩
  | succ k =>
   have:=Mn h3 k (by simpa using h)
   rw [show off+3+k*3=off+(k+1)*3 by omega] at this
   exact this
end
theorem a22:A22:=by
 intro old a b s l h1 ha hb hl hx
 refine ⟨⟨_,Tryz.func22,rfl,rfl⟩,?_⟩
 intro ρ X w vals hr hv
 match vals,hv with
 | [v1,v2],⟨e1,⟨arr,e0,h2⟩,_⟩ =>
 subst e0
 obtain rfl:v1=.string (sb old):=e1
 obtain ⟨u1,v',e1,r1,r2⟩:=uR h2
 obtain ⟨u2,v'',e9,r3,r4⟩:=uR r2
 subst e9
 match v'',r4 with
 | [i,sl],⟨e2,⟨pp,len,cap,e0,hlen,hc1,hc2,hels⟩,_⟩ =>
 subst e0
 obtain rfl:i=.int .i64 s:=e2
 have q1:=oV r1
 have q2:=oV r3
 subst q1 q2
 have hlen2:len=l.length:=by simpa using hlen
 subst hlen2
 have harr:arr=pcs a b s (.slice pp l.length cap):=by
  apply Array.ext'
  rw [e1];unfold pcs;rfl
 rw [harr]
 have hend:∀ {blk off},(l≠[]→pp=some ⟨blk,off,none⟩)→(∀ k (h:k<l.length),w.cell? ⟨blk,off+k*3,none⟩=some (.int .i64 l[k].1)∧w.cell? ⟨blk,off+k*3+1,none⟩=some (.int .i64 l[k].2.1)∧w.cell? ⟨blk,off+k*3+2,none⟩=some (.string (sb l[k].2.2))∧blk<w.heap.size)→_:=fun {blk off} hp hop =>
  Calls.mono (acT hr old a b s l blk off pp cap (by omega) ha hb (by omega) (fun x h=>by have:=hx x h;omega) hp hop) (R':=fun e w'=>∃ val r h' ρ',e=.returned val∧(Is (.tup [sv (apR old a b s l),.i (apE old a b s l)]) r h'∧[].length≤h'.length)∧Fr ρ w ρ' w'∧Rep ρ' X w' h'∧aX ρ' X w' r val∧∀ k,k<([]:List Blk).length→k∉([]:List Nat)→ρ' k=ρ k) (by
   rintro e w' ⟨rfl,hbw⟩
   exact ⟨_,_,[],ρ,rfl,⟨⟨rfl,rfl⟩,yaC _⟩,Ik hr hbw,Eb hr hbw,⟨_,rfl,rfl,rfl,trivial⟩,fun k hk=>absurd hk (yaM _)⟩)
 rcases hels with hn|⟨blk,off,hp,hS,hcs⟩
 ·have hl0:l=[]:=by simpa using hn
  exact hend (blk:=0) (off:=0) (fun h=>absurd hl0 h) (fun k h=>by rw [hl0] at h;exact absurd h (yaM _))
 ·exact hend (fun _=>hp) fun k h=>by
   obtain ⟨c1,c2,c3⟩:=Mn hcs k h
   exact ⟨c1,c2,c3,hS.1⟩
end Go.Fx.Q
namespace Go.Fx.Q
open Go Go.Fx Go.Fx.K Go.Proofs Go.Fx.R
set_option maxRecDepth 20000
abbrev yC:Bs:=[97,98,99,100,101,102,103,88]
abbrev yO:List Op:=[(0,4,[]),(0,0,[88]),(4,8,[])]
theorem dH {l:Bs}:(⟨l.toArray⟩:ByteArray)=sb l:=rfl
theorem hX:cF 34 [yC]≠b8:=by decide +kernel
theorem akR (o:V):pe b8 b9 9 o=PE o:=by
 unfold pe PE
 rw [show us b8=d8 from usD (by decide),show us b9=d9 from usD (by decide)]
theorem ap1:apE yA b8 b9 9 yO=0:=by
 unfold apE
 rw [if_neg (by rw [dig,hD.2.2.1];simp),show apN yA yO []=some yB by decide]
 simp only [List.length_cons,List.length_nil]
 rw [if_neg (by decide),if_neg (by rw [dig,hD.2.2.2];simp)]
theorem ap2:apE yC b8 b9 9 yO=8:=by
 unfold apE
 rw [if_pos hX]
theorem apP:Ok 22 [sv yA,.agg (PE (.ro 3 oA))] (Is (.tup [sv yB,.i 0])):=by
 have h:=a22 yA b8 b9 9 yO (by decide) rfl rfl (by decide) (by decide)
 have e:apR yA b8 b9 9 yO=yB:=by unfold apR;rw [ap1,if_neg (by decide),show apN yA yO []=some yB by decide];rfl
 rw [ap1,e,akR] at h
 exact h
theorem apO:Ok 22 [sv yC,.agg (PE (.ro 3 oA))] (Is (.tup [sv [],.i 8])):=by
 have h:=a22 yC b8 b9 9 yO (by decide) rfl rfl (by decide) (by decide)
 have e:apR yC b8 b9 9 yO=[]:=by unfold apR;rw [ap2,if_pos (by decide)]
 rw [ap2,e,akR] at h
 exact h
theorem apQ:OkN Tryz.prog 18 [.sl 0 0 3,.i 2] [.arr 2 lM] [0] (IsA (.tup [.ro 2 [sp 0 2,sp 5 9],.i 0]) [.dead]) :=
 Kb (xs:=[.sl 0 0 3,.i 2]) (h0:=[.arr 2 lM]) r18 (by simp [gvL,gvV,wkL,wk,wkR,blk])
theorem apM:OkN Tryz.prog 23 [.agg mA,.ro 16 [d0,d1,d2],sv xB,.sl 0 0 1] [.arr 2 [sp 0 10]] [0] (IsA (.tup [.ro 2 lC,.i 0]) [.dead]) :=
 Kb (xs:=[.agg mA,.ro 16 [d0,d1,d2],sv xB,.sl 0 0 1]) (h0:=[.arr 2 [sp 0 10]]) r23 (by simp [gvL,gvV,wkL,wk,wkR,blk,d0,d1,d2,d3,d4,d5,d6,d7,d8,d9,aQ,aP])
set_option maxHeartbeats 4000000 in
theorem r4:Ok 4 [] (Is (.b true)):=by
 refine bO lw4 (by simp) ?_
 unfold c4
 refine rK fun N hN=>?_
 repeat' first
  | with_reducible refine And.intro ?_ ?_
  | simp -implicitDefEqProofs only [rX,aA,cxN,aO]
  | rfl
 refine hN _ ?_
 clear hN N
 refine rK fun N hN=>?_
 repeat' first
  | with_reducible refine And.intro ?_ ?_
  | ((with_reducible show aR _ 13 _ _ _);refine aJ (r13) ?_ ?_ ?_ ?_;(focus simp [aE,aG,aL,a6,blk,wkL,wk,wkR,wkB,d0,d1,d2,d3,d4,d5,d6,d7,d8,d9,aQ,aP,d0,d1,d2,d3,d4,d5,d6,d7,d8,d9,aQ,aP,PE,dH,eZ,kB];done);(focus rfl);(focus simp [aD,aC];done))
  | simp -implicitDefEqProofs only [rX,↓rY,aA,cells?,splice,↓reduceIte,Nat.reduceEqDiff,Nat.reduceAdd,aF,isC,cxN,yad,yab,reduceIte,Nat.reduceAdd,yaj,yac,yaa,isC,d6,aQ,aP,dH]
  | rfl
 refine hN _ ?_
 clear hN N
 refine rK fun N hN=>?_
 repeat' first
  | with_reducible refine And.intro ?_ ?_
  | ((with_reducible show aR _ 14 _ _ _);refine aJ (r14) ?_ ?_ ?_ ?_;(focus simp [aE,aG,aL,a6,blk,wkL,wk,wkR,wkB,d0,d1,d2,d3,d4,d5,d6,d7,d8,d9,aQ,aP,d0,d1,d2,d3,d4,d5,d6,d7,d8,d9,aQ,aP,PE,dH,eZ,kB];done);(focus rfl);(focus simp [aD,aC];done))
  | simp -implicitDefEqProofs only [rX,↓rY,aA,↓reduceIte,Nat.reduceEqDiff,cxN,yad,reduceIte,yaa,d5,aQ,aP,dH]
  | rfl
 refine hN _ ?_
 clear hN N
 refine rK fun N hN=>?_
 repeat' first
  | with_reducible refine And.intro ?_ ?_
  | ((with_reducible show aR _ 15 _ _ _);refine aJ (r15) ?_ ?_ ?_ ?_;(focus simp [aE,aG,aL,a6,blk,wkL,wk,wkR,wkB,d0,d1,d2,d3,d4,d5,d6,d7,d8,d9,aQ,aP,d0,d1,d2,d3,d4,d5,d6,d7,d8,d9,aQ,aP,PE,dH,eZ,kB];done);(focus rfl);(focus simp [aD,aC];done))
  | ((with_reducible show aR _ 16 _ _ _);refine aJ (r16) ?_ ?_ ?_ ?_;(focus simp [aE,aG,aL,a6,blk,wkL,wk,wkR,wkB,d0,d1,d2,d3,d4,d5,d6,d7,d8,d9,aQ,aP,d0,d1,d2,d3,d4,d5,d6,d7,d8,d9,aQ,aP,PE,dH,eZ,kB];done);(focus rfl);(focus simp [aD,aC];done))
  | ((with_reducible show aR _ 17 _ _ _);refine aJ (r17 _ _ _ (.inl ⟨⟨rfl,rfl⟩,rfl⟩)) ?_ ?_ ?_ ?_;(focus simp [aE,aG,aL,a6,blk,wkL,wk,wkR,wkB,d0,d1,d2,d3,d4,d5,d6,d7,d8,d9,aQ,aP,d0,d1,d2,d3,d4,d5,d6,d7,d8,d9,aQ,aP,PE,dH,eZ,kB];done);(focus rfl);(focus simp [aD,aC];done))
  | ((with_reducible show aR _ 17 _ _ _);refine aJ (r17 _ _ _ (.inr ⟨⟨rfl,rfl⟩,rfl⟩)) ?_ ?_ ?_ ?_;(focus simp [aE,aG,aL,a6,blk,wkL,wk,wkR,wkB,d0,d1,d2,d3,d4,d5,d6,d7,d8,d9,aQ,aP,d0,d1,d2,d3,d4,d5,d6,d7,d8,d9,aQ,aP,PE,dH,eZ,kB];done);(focus rfl);(focus simp [aD,aC];done))
  | simp -implicitDefEqProofs only [rX,↓rY,aA,cells?,splice,↓reduceIte,Nat.reduceEqDiff,Nat.reduceAdd,bJ,Nat.reduceLeDiff,cxN,yad,yab,BEq.rfl,reduceIte,Nat.reduceAdd,Nat.reduceLeDiff,yaj,yae,yac,we,wg,yaa,rG,rH,xC,l7,dH]
  | rfl
 refine hN _ ?_
 clear hN N
 refine rK fun N hN=>?_
 repeat' first
  | with_reducible refine And.intro ?_ ?_
  | ((with_reducible show aR _ 18 _ _ _);refine Gl 1 (apQ) ?_ ?_ rfl ?_ ?_ ?_;(focus simp;done);(focus simp;done);(focus simp [aE,aG,aL,a6,blk,wkL,wk,wkR,wkB,d0,d1,d2,d3,d4,d5,d6,d7,d8,d9,aQ,aP,pos,d0,d1,d2,d3,d4,d5,d6,d7,d8,d9,aQ,aP,PE,dH,eZ,kB];done);(focus simp [aK,aD,aC];done))
  | simp -implicitDefEqProofs only [rX,↓rY,aA,cells?,splice,↓reduceIte,Nat.reduceEqDiff,Nat.reduceAdd,reduceCtorEq,aF,bJ,bR,aM,aK,kill,bD,St.kill,isD,Nat.reduceLT,Nat.reduceLeDiff,cxN,ren,bZ,aM,aK,kill,bD,yad,yag,yah,yab,reduceIte,Nat.reduceAdd,Nat.reduceLeDiff,Nat.reduceLT,yaj,yae,yac,yaa,isD,d6,aQ,aP]
  | rfl
 refine hN _ ?_
 clear hN N
 refine rK fun N hN=>?_
 repeat' first
  | with_reducible refine And.intro ?_ ?_
  | ((with_reducible show aR _ 19 _ _ _);refine aJ (r19 _ _ ⟨.inl rfl,rfl⟩) ?_ ?_ ?_ ?_;(focus simp [aE,aG,aL,a6,blk,wkL,wk,wkR,wkB,d0,d1,d2,d3,d4,d5,d6,d7,d8,d9,aQ,aP,d0,d1,d2,d3,d4,d5,d6,d7,d8,d9,aQ,aP,PE,dH,eZ,kB];done);(focus rfl);(focus simp [aD,aC];done))
  | simp -implicitDefEqProofs only [rX,↓rY,aA,cells?,splice,↓reduceIte,Nat.reduceEqDiff,Nat.reduceAdd,aF,bJ,bR,isD,Nat.reduceLT,Nat.reduceLeDiff,cxN,yad,yag,yah,yab,BEq.rfl,reduceIte,Nat.reduceAdd,Nat.reduceLeDiff,Nat.reduceLT,yaj,yae,yac,we,wg,yaa,isD]
  | rfl
 refine hN _ ?_
 clear hN N
 refine rK fun N hN=>?_
 repeat' first
  | with_reducible refine And.intro ?_ ?_
  | ((with_reducible show aR _ 20 _ _ _);refine aJ (r20) ?_ ?_ ?_ ?_;(focus simp [aE,aG,aL,a6,blk,wkL,wk,wkR,wkB,d0,d1,d2,d3,d4,d5,d6,d7,d8,d9,aQ,aP,d0,d1,d2,d3,d4,d5,d6,d7,d8,d9,aQ,aP,PE,dH,eZ,kB];done);(focus rfl);(focus simp [aD,aC];done))
  | simp -implicitDefEqProofs only [rX,↓rY,aA,cells?,splice,↓reduceIte,Nat.reduceEqDiff,Nat.reduceAdd,aF,isC,cxN,yad,yag,yab,reduceIte,Nat.reduceAdd,yaj,yac,yaa,isC,d8,d9,aQ,aP,PE,dH]
  | rfl
 refine hN _ ?_
 clear hN N
 refine rK fun N hN=>?_
 repeat' first
  | with_reducible refine And.intro ?_ ?_
  | ((with_reducible show aR _ 21 _ _ _);refine aJ (r21) ?_ ?_ ?_ ?_;(focus simp [aE,aG,aL,a6,blk,wkL,wk,wkR,wkB,d0,d1,d2,d3,d4,d5,d6,d7,d8,d9,aQ,aP,d0,d1,d2,d3,d4,d5,d6,d7,d8,d9,aQ,aP,PE,dH,eZ,kB];done);(focus rfl);(focus simp [aD,aC];done))
  | simp -implicitDefEqProofs only [rX,↓rY,aA,cells?,splice,↓reduceIte,Nat.reduceEqDiff,Nat.reduceAdd,bJ,Nat.reduceLT,Nat.reduceLeDiff,cxN,yad,yaf,yah,yai,yab,yak,yap,BEq.rfl,reduceIte,Nat.reduceAdd,yal,Nat.reduceLeDiff,Nat.reduceLT,yaj,yae,yac,we,wg,yaa,yaq,yau,exists_prop,maxLen,yan,true_implies,yao,yar,rG,rH,xC,Fv,l7,dH,eZ]
  | rfl
 refine hN _ ?_
 clear hN N
 refine rK fun N hN=>?_
 repeat' first
  | with_reducible refine And.intro ?_ ?_
  | ((with_reducible show aR _ 22 _ _ _);refine aJ (apP) ?_ ?_ ?_ ?_;(focus simp [aE,aG,aL,a6,blk,wkL,wk,wkR,wkB,d0,d1,d2,d3,d4,d5,d6,d7,d8,d9,aQ,aP,d0,d1,d2,d3,d4,d5,d6,d7,d8,d9,aQ,aP,PE,dH,eZ,kB];done);(focus rfl);(focus simp [aD,aC];done))
  | simp -implicitDefEqProofs only [rX,↓rY,aA,↓reduceIte,Nat.reduceEqDiff,Nat.reduceAdd,cxN,yad,yab,reduceIte,Nat.reduceAdd,yae,yac,yaa,dH]
  | rfl
 refine hN _ ?_
 clear hN N
 refine rK fun N hN=>?_
 repeat' first
  | with_reducible refine And.intro ?_ ?_
  | ((with_reducible show aR _ 22 _ _ _);refine aJ (apO) ?_ ?_ ?_ ?_;(focus simp [aE,aG,aL,a6,blk,wkL,wk,wkR,wkB,d0,d1,d2,d3,d4,d5,d6,d7,d8,d9,aQ,aP,d0,d1,d2,d3,d4,d5,d6,d7,d8,d9,aQ,aP,PE,dH,eZ,kB];done);(focus rfl);(focus simp [aD,aC];done))
  | simp -implicitDefEqProofs only [rX,↓rY,aA,↓reduceIte,Nat.reduceEqDiff,Nat.reduceAdd,cxN,yad,yab,reduceIte,Nat.reduceAdd,yae,yac,yaa,dH]
  | rfl
 refine hN _ ?_
 clear hN N
 refine rK fun N hN=>?_
 repeat' first
  | with_reducible refine And.intro ?_ ?_
  | ((with_reducible show aR _ 24 _ _ _);refine aJ (r24) ?_ ?_ ?_ ?_;(focus simp [aE,aG,aL,a6,blk,wkL,wk,wkR,wkB,d0,d1,d2,d3,d4,d5,d6,d7,d8,d9,aQ,aP,d0,d1,d2,d3,d4,d5,d6,d7,d8,d9,aQ,aP,PE,dH,eZ,kB];done);(focus rfl);(focus simp [aD,aC];done))
  | ((with_reducible show aR _ 23 _ _ _);refine Gl 4 (apM) ?_ ?_ rfl ?_ ?_ ?_;(focus simp;done);(focus simp;done);(focus simp [aE,aG,aL,a6,blk,wkL,wk,wkR,wkB,d0,d1,d2,d3,d4,d5,d6,d7,d8,d9,aQ,aP,pos,d0,d1,d2,d3,d4,d5,d6,d7,d8,d9,aQ,aP,PE,dH,eZ,kB];done);(focus simp [aK,aD,aC];done))
  | simp -implicitDefEqProofs only [rX,↓rY,rdK,aA,cells?,splice,↓reduceIte,Nat.reduceEqDiff,Nat.reduceAdd,reduceCtorEq,aF,bJ,bR,aM,aK,kill,bD,St.kill,isD,Nat.reduceLT,cxN,ren,bZ,aM,aK,kill,bD,yad,yag,yah,yab,reduceIte,Nat.reduceAdd,Nat.reduceLT,yaj,yae,yac,yaa,isD,d0,d1,d2,aQ,aP,dH]
  | rfl
 all_goals
  refine hN _ ?_
  clear hN N
  repeat' first
   | with_reducible refine And.intro ?_ ?_
   | ((with_reducible show aR _ 19 _ _ _);refine aJ (r19 _ _ ⟨.inr rfl,rfl⟩) ?_ ?_ ?_ ?_;(focus simp [aE,aG,aL,a6,blk,wkL,wk,wkR,wkB,d0,d1,d2,d3,d4,d5,d6,d7,d8,d9,aQ,aP,d0,d1,d2,d3,d4,d5,d6,d7,d8,d9,aQ,aP,PE,dH,eZ,kB];done);(focus rfl);(focus simp [aD,aC];done))
   | simp -implicitDefEqProofs only [rX,↓rY,aA,cells?,splice,↓reduceIte,Nat.reduceEqDiff,Nat.reduceAdd,aF,bJ,bR,aY,a7,wfV,isD,Nat.reduceLT,Nat.reduceLeDiff,↓qbI,cxN,dZ,yad,yag,yah,yab,BEq.rfl,reduceIte,Nat.reduceAdd,Nat.reduceLeDiff,Nat.reduceLT,yaj,yae,yac,we,wg,yaa,isD,dH]
   | rfl
end Go.Fx.Q
namespace Go.Fx.K
open Go Go.Fx Go.Proofs
set_option maxRecDepth 20000
theorem amJ {f:FuncId} {xs:List V} (h:Ok f xs (Is (.b true))):Fn Tryz.prog f xs [] [] (fun r _=>r=.b true):=(f9 h fun r h' hr=>hr.1).2
theorem Um {k:IntKind} (hk:lo k=0) {x:List V} (h:WfT (.int k) x):∃ n:Nat,x=[.v (.int k n)]∧(n:Int)≤hi k:=by
 obtain ⟨n,h1,h2,h3⟩:∃ n:Int,x=[.v (.int k n)]∧lo k≤n∧n≤hi k:=by simpa only [WfT] using h
 obtain ⟨m,rfl⟩:=Int.eq_ofNat_of_zero_le (show 0≤n by omega)
 exact ⟨m,h1,h3⟩
theorem aeS {x:List V} (h:WfT .str x):∃ l:Bs,x=[sv l]:=by
 obtain ⟨s,h1,_⟩:=h
 obtain ⟨l,rfl⟩:=aiH (b:=s)
 exact ⟨l,h1⟩
theorem exM {α β:Type} {g:α→β} {p:α→Prop}:∀ {els:List β},(∀ x∈els,∃ a,x=g a∧p a)→∃ l:List α,els=l.map g∧∀ a∈l,p a
 | [],_=>⟨[],rfl,by simp⟩
 | x::r,h=>by
  obtain ⟨a,rfl,ha⟩:=h x List.mem_cons_self
  obtain ⟨l,rfl,hl⟩:=exM (els:=r) fun y hy=>h y (List.mem_cons_of_mem _ hy)
  exact ⟨a::l,rfl,fun b hb=>(List.mem_cons.1 hb).elim (fun e=>e▸ha) (hl b)⟩
theorem fn3:∀ xs,WfA [.sl 1 .str,.int .u16,.int .u16,.bool] xs→Fn Tryz.prog 3 xs [] [] (fun r _=>r=.b true):=by
 intro xs h
 obtain ⟨x1,_,rfl,h1,x2,_,rfl,h2,x3,_,rfl,h3,x4,_,rfl,h4,h⟩:=h
 obtain rfl:_=[]:=h
 obtain ⟨n,hn,hb⟩:=Um rfl (show WfT (.int .u16) [x2] from h2)
 obtain ⟨m,hm,hc⟩:=Um rfl (show WfT (.int .u16) [x3] from h3)
 have a1:(n:Int)≤65535:=hb
 have a2:(m:Int)≤65535:=hc
 obtain rfl:x2=.v (.int .u16 n):=by simpa using hn
 obtain rfl:x3=.v (.int .u16 m):=by simpa using hm
 obtain ⟨c,h5⟩:∃ c:Bool,[x4]=[V.b c]:=h4
 obtain rfl:x4=.b c:=by simpa using h5
 have h1':WfT (.sl 1 .str) [x1]:=h1
 rw [WfT] at h1'
 obtain ⟨els,h6,_,he⟩:=h1'
 obtain ⟨l,rfl,hl⟩:=exM (g:=encS) (p:=fun _:Bs=>True) fun x hx=>by
  obtain ⟨l,e⟩:=aeS (he x hx)
  exact ⟨l,e,trivial⟩
 obtain rfl:x1=.ro 1 (l.map encS):=by simpa using h6
 exact amJ (ok3 Q.r4 l n m c (by omega) (by omega))
end Go.Fx.K
