import Derived.Test.YtebjeeogjepcaaaGreatDoorHLow0
import Derived.Test.YtebjeeogjepcaaaGreatDoorHLow
import Derived.Test.YtebjeeogjepcaaaGreatDoorT26
import Derived.Shelf.Lay
import Derived.Shelf.LaySoft
import Derived.Shelf.Strings.Builder1
import Derived.Shelf.Strings.BuilderF
import Derived.Shelf.Strings.BuilderK
import Derived.Test.YtebjeeogjepcaaaGreatDoorProg
import Derived.WalkKit
import Derived.BigCall
import Derived.Deep.RegionHeld3
import Derived.Shelf.Strings.MapGrows
set_option linter.unusedVariables false
set_option linter.unusedSimpArgs false
set_option linter.unusedSectionVars false
open List renaming length_append → yaa, length_take → yab, take_of_length_le → yad, pairwise_cons → yae, getElem_map → yaf, take_append_drop → yag, getElem?_eq_getElem → yai, append_assoc → yak, getElem_mem → yal, drop_of_length_le → yam, getElem_append_right → yan, drop_eq_getElem_cons → yao, take → yap, drop → yaq, mem_cons → yar, pairwise_append → yas, length_drop → yat, take_add_one → yau, mem_cons_of_mem → yaw, getElem_append_left → yax, append_nil → yay, mem_cons_self → yaz, eq_nil_of_length_eq_zero → yaB, length_singleton → yaC, set_append_right → yaD, take_sublist → yaE, take_append_of_le_length → yaF, drop_append_of_le_length → yaG, getElem?_append_right → yaH, map_append → yaI, mem_map → yaJ, mem_range → yaK, mem_append → yaL, length_map → yaN, nil_append → yaP, drop_sublist → yaQ, eq_nil_or_concat → yaS, concat_eq_append → yaT, range → yaU, cons_append → yaX, length_cons → yaY, pairwise_iff_getElem → yaZ, map_cons → yba, range' → ybb, take_length → ybe, replicate_succ → ybg, length → ybh, getLast?_append → ybj, toArray → ybl, getLastD_eq_getLast? → ybm, getLast?_eq_getElem? → ybn, dropLast_eq_take → ybo, mem_of_mem_take → ybp, perm_append_comm → ybq, getD_eq_getElem?_getD → ybr, getLast?_singleton → ybs, dropLast_concat → ybt, take_succ_cons → ybu, getElem?_toArray → ybv, isEmpty_eq_false_iff → ybw
open Nat renaming le_refl → yac, zero_le → yaj, eq_zero_or_pos → yav, le_of_lt → yaM, sub_zero → ybd, le_trans → ybf, lt_or_ge → ybi, reduceSub → ybk
open Int renaming toNat_natCast → yah, natCast_zero → yaA, lt_or_le → yaO, le_refl → yaR
open Bool renaming not_false → yaV, not_true → yaW
open Option renaming getD_some → ybc
namespace Go.Fx.H
open Go Go.Fx Go.Proofs
def c81a:LCode :=
 (.seq
 (.reg 0 [
 ⟨(some 13),.mov (.tmp 2),none⟩,
 ⟨(some 14),.bin .lss false (.tmp 13) (.const (.int .i64 1)),none⟩,
 ⟨(some 15),.mov (.tmp 14),none⟩,
 ⟨(some 16),.mov (.tmp 2),(some (15,false))⟩,
 ⟨(some 17),.bin .gtr false (.tmp 16) (.const (.int .i64 1099511627776)),(some (15,false))⟩,
 ⟨(some 18),.pick (.tmp 15) (.const (.bool true)) (.tmp 17),none⟩,
 ⟨(some 19),.mov (.tmp 18),none⟩,
 ⟨(some 20),.mov (.tmp 1),(some (19,false))⟩,
 ⟨(some 21),.bin .lss false (.tmp 20) (.const (.int .i64 0)),(some (19,false))⟩,
 ⟨(some 22),.pick (.tmp 19) (.const (.bool true)) (.tmp 21),none⟩,
 ⟨(some 23),.mov (.tmp 22),none⟩,
 ⟨(some 24),.mov (.tmp 1),(some (23,false))⟩,
 ⟨(some 25),.mov (.tmp 2),(some (23,false))⟩,
 ⟨(some 26),.bin .geq false (.tmp 24) (.tmp 25),(some (23,false))⟩,
 ⟨(some 27),.pick (.tmp 23) (.const (.bool true)) (.tmp 26),none⟩])
 (.cond (.tmp 27)
 (.seq
 (.reg 0 [
 ⟨none,.store 1 (.tmp 10) (.const (.bool false)),none⟩])
 .ret)
 .skip))
def c81b:LCode :=
 (.seq
 (.reg 1 [
 ⟨(some 12),.alloc 0 (.nilFunc),none⟩])
 (.seq
 (.reg 0 [
 ⟨(some 32),.fn 125 [(.tmp 5),(.tmp 11),(.tmp 12)],none⟩,
 ⟨none,.store 1 (.tmp 12) (.tmp 32),none⟩])
 (.seq
 (.tree 0
 (.take 0 [3,5,6] ⟨(some 33),.load none (.tmp 12),none⟩
 (.take 1 [3,5,6] ⟨(some 34),.mov (.tmp 1),none⟩
 (.take 2 [3,5,6] ⟨(some 35),.mov (.tmp 2),none⟩
 (.alt 3 ⟨(some 36),.callv (.tmp 33) [(.tmp 34),(.tmp 35)],none⟩ false
 (.take 4 [5,6] ⟨(some 37),.load (some 16) (.tmp 9),none⟩
 (.take 5 [6] ⟨(some 38),.prim (.aeq false ((ybb 0 16).map fun i=>(i,(.int .u8)))) [(.tmp 36),(.tmp 37)],none⟩
 (.alt 6 ⟨none,.store 1 (.tmp 10) (.tmp 38),none⟩ false
 .done
 .none)))
 (.alt 4 ⟨(some 37),.load (some 16) (.tmp 9),none⟩ true
 (.alt 3 ⟨(some 36),.callv (.tmp 33) [(.tmp 34),(.tmp 35)],none⟩ false
 (.take 5 [6] ⟨(some 38),.prim (.aeq false ((ybb 0 16).map fun i=>(i,(.int .u8)))) [(.tmp 36),(.tmp 37)],none⟩
 (.alt 6 ⟨none,.store 1 (.tmp 10) (.tmp 38),none⟩ false
 .done
 .none))
 .none)
 .none))))))
 .ret)))
def c81:LDf:=.seq ((.reg 3 [ ⟨(some 5),.box 0 (.tmp 0),none⟩,⟨(some 9),.box 1 (.tmp 4),none⟩,⟨(some 10),.alloc 2 (.bool false),none⟩])) (.seq c81a (.seq ((.reg 2 [ ⟨(some 28),.mov (.tmp 3),none⟩,⟨(some 29),.build [.slice none 0 0,.bool false] [(0,1,(.tmp 28))],none⟩,⟨(some 30),.box 0 (.tmp 29),none⟩,⟨(some 11),.alloc 1 (.pointer none),none⟩,⟨none,.store 1 (.tmp 11) (.tmp 30),none⟩])) (.dfr 0 [⟨(some 31),.load none (.tmp 11),none⟩] 124 [(.tmp 31),(.tmp 10)] c81b)))
def c124:List aP:=[ ⟨(some 4),.mov (.tmp 1),none⟩,⟨(some 5),.mov (.tmp 1),none⟩,⟨(some 6),.nilc (.tmp 5),none⟩,⟨(some 7),.load none (.tmp 6),none⟩,⟨(some 8),.mov (.tmp 7),none⟩,⟨(some 9),.mov (.tmp 0),(some (8,true))⟩,⟨(some 10),.nilc (.tmp 9),(some (8,true))⟩,⟨(some 11),.fld 1 (.tmp 10),(some (8,true))⟩,⟨(some 12),.load none (.tmp 11),(some (8,true))⟩,⟨(some 13),.not (.tmp 12),(some (8,true))⟩,⟨(some 14),.pick (.tmp 8) (.tmp 13) (.const (.bool false)),none⟩,⟨(some 15),.mov (.tmp 14),none⟩,⟨(some 16),.mov (.tmp 0),(some (15,true))⟩,⟨(some 17),.nilc (.tmp 16),(some (15,true))⟩,⟨(some 18),.fld 0 (.tmp 17),(some (15,true))⟩,⟨(some 19),.load none (.tmp 18),(some (15,true))⟩,⟨(some 20),.len (.tmp 19),(some (15,true))⟩,⟨(some 21),.bin .eql false (.tmp 20) (.const (.int .i64 0)),(some (15,true))⟩,⟨(some 22),.pick (.tmp 15) (.tmp 21) (.const (.bool false)),none⟩,⟨(some 23),.nilc (.tmp 4),none⟩,⟨none,.store 1 (.tmp 23) (.tmp 22),none⟩]
theorem lw81:Uq Tryz.prog 81 c81=some (c81,[.cell 10 none],39):=by kernel_rfl
theorem lw124:Up Tryz.prog 124 c124=some (c124,[],24):=by kernel_rfl
end Go.Fx.H
namespace Go.Fx.H
open Go Go.Fx Go.Proofs Go.Fx.R
set_option maxRecDepth 20000
theorem Ue {h:List Blk} {K:V→Prop} {z:Nat} {sz:Nat} {els:List (List V)} {a u m:Option Int}:rC h z (.ro sz els) a u m K=(sz=z∧cS els.length a u m∧K (roF sz u m els.length ((els.drop (a.getD 0).toNat).take ((u.getD els.length).toNat-(a.getD 0).toNat)))):=rfl
theorem acK {h:List Blk} {l:List Bs} {K:V→Prop} {k:Nat} (hk:k<l.length) (hK:K (rD (l.take k))):rC h 16 (rD l) none (some (k:Int)) (some (k:Int)) K:=by
 rw [Ue]
 refine ⟨rfl,?_,?_⟩
 ·simp only [cS,ybc,Option.getD_none,yaN];omega
 ·have hne:¬((k:Int)=((l.map us).length:Int)):=by rw [yaN];omega
  simp only [roF,hne,and_false,if_false,ybc,Option.getD_none]
  rw [show Int.toNat 0=0 from rfl,List.drop_zero,yah,ybd,←List.map_take]
  exact hK
theorem acC:[V.v (Value.int IntKind.u8 0),V.v (Value.int IntKind.u8 0),V.v (Value.int IntKind.u8 0),V.v (Value.int IntKind.u8 0),V.v (Value.int IntKind.u8 0),V.v (Value.int IntKind.u8 0),V.v (Value.int IntKind.u8 0),V.v (Value.int IntKind.u8 0),V.v (Value.int IntKind.u8 0),V.v (Value.int IntKind.u8 0),V.v (Value.int IntKind.u8 0),V.v (Value.int IntKind.u8 0),V.v (Value.int IntKind.u8 0),V.v (Value.int IntKind.u8 0),V.v (Value.int IntKind.u8 0),V.v (Value.int IntKind.u8 0)]=us z16:=w16
theorem Pf:lG=z16:=by unfold lG z16;rfl
theorem Zh (l:List Bs) (s:Bool) (hD:D16 l) (hl:l.length≤1000000000):OkN Tryz.prog 126 [.ptr 0 0 0] [.var [rD l,.b s]] [] (IsA (.agg (us (l.getLastD lG))) [.var [rD l.dropLast,.b (s||l.isEmpty)]]):=by
 refine fR pol [0] lw126 (by simp) ⟨trivial,trivial⟩ (fun k hk hm=>by simp at hk ⊢;omega) ?_
 unfold c126
 obtain ⟨z1,z2,z3⟩:=fN dM
 simp -implicitDefEqProofs only [rX,↓rY,aA,cells?,splice,↓reduceIte,Nat.reduceEqDiff,Nat.reduceAdd,reduceCtorEq,aE,bZ,aT,aX,leH,leB,leV,dE,aC,aB,wfB,wfV,wfL,isC,Nat.reduceLeDiff,yaf,cxN,aK,w16,acC,z1,z2,z3,iW,dX,bT]
 intro hm
 simp only [br,beq_iff_eq,beq_eq_false_iff_ne]
 refine ⟨fun h1=>?_,fun h1=>?_⟩
 ·have:l=[]:=yaB (by omega)
  subst this
  exact ⟨⟨rfl,by simp⟩,by rw [←Pf];rfl⟩
 ·have hl1:0<l.length:=by omega
  have e1:(l.length:Int)-1=((l.length-1:Nat):Int):=by omega
  have hk:((l.length:Int)-1).toNat<l.length:=by omega
  have hx:l[((l.length:Int)-1).toNat]'hk=l.getLastD lG:=by
   rw [ybm,ybn,yai (by omega)]
   simp only [ybc]
   congr 1
   omega
  have hd:(l.getLastD lG).length=16:=by rw [←hx];exact hD _ (yal hk)
  obtain ⟨u1,u2,u3⟩:=fN hd
  refine ⟨by simp only [lo,Fx.hi];omega,by omega,hk,?_⟩
  simp only [hx,u1,u2,iW,z3,yay]
  rw [e1]
  refine ⟨yac _,trivial,trivial,by simp only [lo,Fx.hi];omega,by simp only [lo,Fx.hi];omega,acK (by omega) ?_⟩
  simp -implicitDefEqProofs only [rX,↓rY,leV,dE,isC,dX]
  rw [ybo]
  have:l.isEmpty=false:=by cases l with|nil=>simp at hl1|cons _ _=>rfl
  simp [this]
theorem Zj (l:List Bs) (s ok:Bool) (hl:l.length≤1000000000):CD0 Tryz.prog 124 [.ptr 0 0 0,.ptr 1 0 0] [.var [rD l,.b s],.var [.b ok]] [] (IsA (.tup []) [.var [rD l,.b s],.var [.b (ok&&!s&&l.isEmpty)]]):=by
 refine Wn [0,1] lw124 (by simp) ⟨trivial,trivial,trivial⟩ (fun k hk hm=>by simp at hk ⊢;omega) ?_
 unfold c124
 simp -implicitDefEqProofs only [rX,↓rY,aA,cells?,splice,↓reduceIte,Nat.reduceEqDiff,Nat.reduceAdd,reduceCtorEq,aT,aX,leH,leB,leV,dE,aC,aB,wfB,wfV,wfL,isC,cxN,aK,bT]
 cases ok<;>cases s<;>simp [br]
 intro _
 cases l<;>simp
 omega
abbrev hC (x:Bs) (l:List Bs) (s:Bool):List Blk:=[.var (us x),.var [.ptr 3 0 0],.var [.clo 125 [.ptr 0 0 0,.ptr 1 0 0,.ptr 2 0 0]],.var [rD l,.b s]]
def nK (l:List Bs) (d:Nat):List Bs:=l.take (l.length-d)
def oF (l:List Bs) (s:Bool) (d:Nat):Bool:=s||decide (l.length<d)
theorem Lx {l:List Bs} {d:Nat}:nK l.dropLast d=nK l (d+1):=by
 unfold nK
 rw [ybo,List.take_take];congr 1;simp;omega
theorem Lw {l:List Bs} {s:Bool} {d:Nat}:oF l.dropLast (s||l.isEmpty) d=oF l s (d+1):=by
 unfold oF
 cases s with
 | true=>simp
 | false =>
  cases l with
  | nil=>simp
  | cons x r=>simp [List.length_dropLast]
theorem D16.dropLast {l:List Bs} (h:D16 l):D16 l.dropLast:=fun d hd=>h d (List.dropLast_subset l hd)
theorem Zv {l:List Bs} (h:D16 l):(l.getLastD lG).length=16:=by
 rw [ybm]
 cases hl:l.getLast? with
 | none=>rfl
 | some x=>exact h x (List.mem_of_getLast? hl)
theorem Fs:∀ (n:Nat) (x:Bs) (i:Nat) (l:List Bs),x.length=16→(cl x i n l).length=16:=by
 intro n x i l hx
 by_cases h2:2≤n
 ·by_cases hi:i<spl n
  ·rw [Of h2 hi];exact lQ
  ·rw [Ih h2 hi];exact lQ
 ·rw [Au h2];exact hx
def c125r:LCode:=sqR (sqR (sqR c125))
theorem c125_eq:c125=.seq (sqL c125) (.seq (sqL (sqR c125)) (.seq (sqL (sqR (sqR c125))) c125r)):=rfl
theorem Zi:∀ (n:Nat) (x:Bs) (i:Nat) (l:List Bs) (s:Bool),1≤n→i<n→x.length=16→D16 l→l.length≤1000000000→n≤1152921504606846976 →
  OkN Tryz.prog 125 [.i i,.i n,.ptr 0 0 0,.ptr 1 0 0,.ptr 2 0 0] (hC x l s) [] (IsA (.agg (us (cl x i n l))) (hC x (nK l (dep i n)) (oF l s (dep i n)))):=by
 intro n
 induction n using Nat.strongRecOn with
 | ind n ih =>
  intro x i l s h1 hi hx hD hl hn
  refine fR pol [0,1,2,3] lw125 (by simp) ⟨trivial,trivial,trivial,trivial,trivial⟩ (fun k hk hm=>by simp at hk ⊢;omega) ?_
  obtain ⟨z1,z2,z3⟩:=fN dM
  obtain ⟨x1,x2,x3⟩:=fN hx
  by_cases h2:2≤n
  ·have hs:=fE h2
   have hd:=Zv hD
   obtain ⟨d1,d2,d3⟩:=fN hd
   have rest:∀ (e:Env) (b:Nat),get e 0=.i i→get e 1=.i n→get e 4=.ptr 2 0 0→get e 7=.ptr 4 0 0→get e 8=.i (spl n)→get e 9=.ptr 5 0 0 →
     aw (cxN Tryz.prog [0,1,2,3]) c125r (eT [0,1,2,3] 4 [fC.cell 7 (some 16)] (IsA (.agg (us (cl x i n l))) (hC x (nK l (dep i n)) (oF l s (dep i n))))) (fun _ _=>False) (eT [0,1,2,3] 4 [fC.cell 7 (some 16)] (IsA (.agg (us (cl x i n l))) (hC x (nK l (dep i n)) (oF l s (dep i n))))) ⟨e,hC x l.dropLast (s||l.isEmpty)++[.var (us z16),.var (us (l.getLastD lG))],b⟩:=by
    intro e b g0 g1 g4 g7 g8 g9
    unfold c125r
    simp -implicitDefEqProofs only [rX,↓rY,c125,sqR,rdK,↓reduceIte,Nat.reduceEqDiff,Nat.reduceAdd,reduceCtorEq,cxN,hC,g0,g1,g4,g8,g9,d1,d2]
    simp only [br,decide_eq_true_eq,decide_eq_false_iff_not]
    refine ⟨fun hi2=>?_,fun hi2=>?_⟩
    ·have hc:=ih (spl n) (by omega) x i l.dropLast (s||l.isEmpty) (by omega) (by omega) hx hD.dropLast (by simp;omega) (by omega)
     rw [Lx,Lw,←Fl h2 (by omega)] at hc
     have hcl:=Fs (spl n) x i l.dropLast hx
     obtain ⟨w1,w2,w3⟩:=fN (lQ (a:=cl x i (spl n) l.dropLast) (b:=l.getLastD lG))
     rw [Of h2 (by omega)]
     refine ⟨?_,?_⟩
     all_goals
      refine eK [0,1,2,3] _ (.agg (us (cl x i (spl n) l.dropLast))) (.agg (us (cl x i (spl n) l.dropLast))) (hC x l.dropLast (s||l.isEmpty)) _ (hC x (nK l (dep i n)) (oF l s (dep i n))++[.var (us z16),.var (us (l.getLastD lG))]) hc (by simp) (by simp [blk,bQ,cD,ren,bE,pos]) (by simp [aM,bL,aZ,dF,wkL,wk,wkR,wkB,pos]) (by simp) (by simp [bQ,cD,ren,bE,back,bO]) (by simp [ren,bE]) (by simp [aC,aB,hC]) ?_
      simp -implicitDefEqProofs only [rX,↓rY,rdK,↓reduceIte,Nat.reduceEqDiff,hC,g9,d1,d2]
      refine aD (Mi _ _ hcl hd) ⟨⟨dV.1,dV.1,trivial⟩,dV.2,dV.2,trivial⟩ (by simp [ren,bE]) ⟨trivial,trivial,trivial,trivial,trivial⟩ ?_
      simp -implicitDefEqProofs only [rX,↓rY,cells?,splice,↓reduceIte,Nat.reduceEqDiff,Nat.reduceAdd,aT,aX,leH,leB,leV,dE,aC,aB,wfB,wfV,wfL,g7,z3,w1,w2,iW,dX,bT]
     all_goals exact ⟨by omega,Kp⟩
    ·have e1:(i:Int)-(spl n:Int)=((i-spl n:Nat):Int):=by omega
     have e2:(n:Int)-(spl n:Int)=((n-spl n:Nat):Int):=by omega
     rw [e1,e2]
     have hc:=ih (n-spl n) (by omega) x (i-spl n) l.dropLast (s||l.isEmpty) (by omega) (by omega) hx hD.dropLast (by simp;omega) (by omega)
     rw [Lx,Lw,←Fm h2 (by omega)] at hc
     have hcl:=Fs (n-spl n) x (i-spl n) l.dropLast hx
     obtain ⟨w1,w2,w3⟩:=fN (lQ (a:=l.getLastD lG) (b:=cl x (i-spl n) (n-spl n) l.dropLast))
     rw [Ih h2 (by omega)]
     refine ⟨by simp only [lo,Fx.hi];omega,by simp only [lo,Fx.hi];omega,?_,?_⟩
     all_goals
      refine eK [0,1,2,3] [.i ((i-spl n:Nat):Int),.i ((n-spl n:Nat):Int),.ptr 0 0 0,.ptr 1 0 0,.ptr 2 0 0] (.agg (us (cl x (i-spl n) (n-spl n) l.dropLast))) (.agg (us (cl x (i-spl n) (n-spl n) l.dropLast))) (hC x l.dropLast (s||l.isEmpty)) _ (hC x (nK l (dep i n)) (oF l s (dep i n))++[.var (us z16),.var (us (l.getLastD lG))]) hc (by simp) (by simp [blk,bQ,cD,ren,bE,pos]) (by simp [aM,bL,aZ,dF,wkL,wk,wkR,wkB,pos]) (by simp) (by simp [bQ,cD,ren,bE,back,bO]) (by simp [ren,bE]) (by simp [aC,aB,hC]) ?_
      simp -implicitDefEqProofs only [rX,↓rY,rdK,↓reduceIte,Nat.reduceEqDiff,hC,g9,d1,d2]
      refine aD (Mi _ _ hd hcl) ⟨⟨dV.1,dV.1,trivial⟩,dV.2,dV.2,trivial⟩ (by simp [ren,bE]) ⟨trivial,trivial,trivial,trivial,trivial⟩ ?_
      simp -implicitDefEqProofs only [rX,↓rY,cells?,splice,↓reduceIte,Nat.reduceEqDiff,Nat.reduceAdd,aT,aX,leH,leB,leV,dE,aC,aB,wfB,wfV,wfL,g7,z3,w1,w2,iW,dX,bT]
     all_goals exact ⟨by omega,Kp⟩
   have hb:((n:Int)==1)=false:=by rw [beq_eq_false_iff_ne];omega
   have c126:=Zh l s hD hl
   have e16:16≤(us z16).length:=by omega
   rw [c125_eq]
   simp -implicitDefEqProofs only [rX,↓rY,c125,sqL,sqR,aA,cells?,splice,↓reduceIte,Nat.reduceEqDiff,Nat.reduceAdd,reduceCtorEq,aE,cxN,aK,w16,hC,x1,x2,iW,hb]
   repeat' first
    | exact rest _ _ rfl rfl rfl rfl rfl rfl
    | refine And.intro ?_ ?_
    | (refine aD (Mj n h2 hn) ⟨⟨trivial,trivial⟩,rfl,trivial⟩ rfl (by simp [aC,aB]) ?_
       simp -implicitDefEqProofs only [rX,↓rY,rdK,aA,cells?,↓reduceIte,Nat.reduceEqDiff,reduceCtorEq,aE,w16])
    | (refine eK [3] [.ptr 0 0 0] (.agg (us (l.getLastD lG))) (.agg (us (l.getLastD lG))) [.var [rD l,.b s]] _ (hC x l.dropLast (s||l.isEmpty)++[.var (us z16),.dead]) c126 (by simp) rfl (by simp [aM,bL,aZ,dF,wkL,wk,wkR,wkB,pos]) (by simp) rfl (by simp [ren,bE]) (by simp [aC,aB,hC]) ?_
       simp -implicitDefEqProofs only [rX,↓rY,aA,cells?,splice,↓reduceIte,Nat.reduceEqDiff,aE,w16,hC,d1,z1,z3,iW])
    | (refine eK [3] [.ptr 0 0 0] (.agg (us (l.getLastD lG))) (.agg (us (l.getLastD lG))) [.var [rD l,.b s]] _ (hC x l.dropLast (s||l.isEmpty)++[.var (us z16),.var (us z16)]) c126 (by simp) rfl (by simp [aM,bL,aZ,dF,wkL,wk,wkR,wkB,pos]) (by simp) rfl (by simp [ren,bE]) (by simp [aC,aB,hC]) ?_
       simp -implicitDefEqProofs only [rX,↓rY,cells?,splice,↓reduceIte,Nat.reduceEqDiff,hC,d1,z1,z3,iW])
  ·have hn1:n=1:=by omega
   subst hn1
   unfold c125
   have hb:(((1:Nat):Int)==1)=true:=rfl
   simp -implicitDefEqProofs only [rX,↓rY,aA,cells?,splice,↓reduceIte,Nat.reduceEqDiff,Nat.reduceAdd,reduceCtorEq,aE,aT,aX,leH,leB,leV,dE,aC,aB,wfB,wfV,wfL,cxN,aK,w16,hC,z1,z3,x1,x2,iW,dX,bT,hb]
   rw [Au (by omega),Ao (by omega)]
   refine ⟨⟨Kp,?_,?_⟩,rfl⟩
   ·unfold nK;rw [ybd,ybe]
   ·unfold oF;simp
def ckI (x:Bs) (i n:Int) (l:List Bs) (r:Bs):Bool:=if n<1∨1099511627776<n∨i<0∨n≤i then false else mP x i.toNat n.toNat l r
theorem acU (x:Bs) (i n:Int) (l:List Bs) (r:Bs) (hx:x.length=16) (hr:r.length=16) (hD:D16 l) (hl:l.length≤1000000000):Ok 81 [.agg (us x),.i i,.i n,rD l,.agg (us r)] (Is (.b (ckI x i n l r))):=by
 refine Qm pol [] lw81 (by simp) trivial (by simp) ?_
 obtain ⟨x1,x2,x3⟩:=fN hx
 obtain ⟨r1,r2,r3⟩:=fN hr
 unfold c81 c81a c81b
 simp -implicitDefEqProofs only [rX,↓rY,rdK,aA,cells?,splice,↓reduceIte,Nat.reduceEqDiff,Nat.reduceAdd,reduceCtorEq,aE,bZ,aT,aX,wfV,isC,Nat.reduceLeDiff,cxN,On,aK]
 simp only [br,decide_eq_true_eq,decide_eq_false_iff_not]
 refine ⟨fun h1=>?_,fun h1=>⟨fun h2=>?_,fun h2=>⟨fun h3=>?_,fun h3=>⟨fun h4=>?_,fun h4=>?_⟩⟩⟩⟩
 ·rw [ckI,if_pos (.inl h1)]
 ·rw [ckI,if_pos (.inr (.inl h2))]
 ·rw [ckI,if_pos (.inr (.inr (.inl h3)))]
 ·rw [ckI,if_pos (.inr (.inr (.inr h4)))]
 obtain ⟨i,rfl⟩:∃ a:Nat,i=a:=⟨i.toNat,by omega⟩
 obtain ⟨n,rfl⟩:∃ a:Nat,n=a:=⟨n.toNat,by omega⟩
 have hck:ckI x i n l r=mP x i n l r:=by rw [ckI,if_neg (by omega),yah,yah]
 have hcl:=Fs n x i l hx
 have hc:=Zi n x i l false (by omega) (by omega) hx hD hl (by omega)
 refine ⟨[3,2],_,⟨rfl,rfl⟩,⟨trivial,trivial,trivial⟩,?_⟩
 have fin:((cl x i n l==r)&&!(oF l false (dep i n))&&(nK l (dep i n)).isEmpty)=mP x i n l r:=by
  unfold mP oF nK
  rw [Bool.and_comm (decide _),Bool.and_assoc]
  congr 1
  rw [Bool.eq_iff_iff]
  simp only [Bool.false_or,Bool.and_eq_true,Bool.not_eq_true',decide_eq_false_iff_not,List.isEmpty_iff,decide_eq_true_eq,List.take_eq_nil_iff]
  constructor
  ·rintro ⟨h5,h6|h6⟩
   ·omega
   ·subst h6;simp at h5 ⊢;omega
  ·intro h5;exact ⟨by omega,.inl (by omega)⟩
 have h124:=Zj (nK l (dep i n)) (oF l false (dep i n)) (cl x i n l==r) (by unfold nK;simp;omega)
 rw [fin,←hck] at h124
 refine ⟨?_,by omega,?_⟩
 all_goals
  refine eK [0,4,5,3] [.i i,.i n,.ptr 0 0 0,.ptr 1 0 0,.ptr 2 0 0] (.agg (us (cl x i n l))) (.agg (us (cl x i n l))) (hC x l false) _ [.var (us x),.var (us r),.var [.b false],.var [rD (nK l (dep i n)),.b (oF l false (dep i n))],.var [.ptr 3 0 0],.var [.clo 125 [.ptr 0 0 0,.ptr 4 0 0,.ptr 5 0 0]]] hc (by simp) (by simp [blk,bQ,cD,ren,bE,pos]) (by simp [aM,bL,aZ,dF,wkL,wk,wkR,wkB,pos]) (by simp) (by simp [bQ,cD,ren,bE,back,bO]) (by simp [ren,bE]) (by simp [aC,aB]) ?_
  simp -implicitDefEqProofs only [rX,↓rY,rdK,cells?,splice,↓reduceIte,Nat.reduceEqDiff,isC,r1,r2]
 all_goals
  rw [rU hcl hr]
  refine eK [3,2] [.ptr 0 0 0,.ptr 1 0 0] (.tup []) (.tup []) [.var [rD (nK l (dep i n)),.b (oF l false (dep i n))],.var [.b (cl x i n l==r)]] _ [.var (us x),.var (us r),.var [.b (ckI x i n l r)],.var [rD (nK l (dep i n)),.b (oF l false (dep i n))],.var [.ptr 3 0 0],.var [.clo 125 [.ptr 0 0 0,.ptr 4 0 0,.ptr 5 0 0]]] h124 (by simp) rfl (by simp [aM,bL,aZ,dF,wkL,wk,wkR,wkB,pos]) (by simp) rfl rfl trivial ?_
  simp -implicitDefEqProofs only [rX,↓rY,↓reduceIte,Nat.reduceEqDiff,aT,aX,wfV]
end Go.Fx.H
namespace Go.Fx.H
open Go Go.Fx Go.Proofs Go.Fx.R
set_option maxRecDepth 20000
section
variable {d:Bs} {tl:List V} {v:V}
theorem p_l (h:d.length=16):(us d).length=16:=by rw [dY,h]
end
end Go.Fx.H
namespace Go.Fx.H
open Go Go.Fx Go.Proofs Go.Fx.R
set_option maxRecDepth 20000
def chE (m:Man) (k:Int) (t:Bs) (p:List Bs):Int:=if k<0∨m.n≤k then 1 else if (t.length:Int)≠(m.span k).2-(m.span k).1∨ckI (lf t) k m.n p m.rt=false then 8 else 0
theorem Gv {m:Man} {k:Int} (h:m.okP) (h0:0≤k) (hk:k<m.n):0≤(m.span k).1∧(m.span k).1<(m.span k).2∧(m.span k).2≤m.size∧(m.span k).2≤65536:=by
 obtain ⟨p1,p2,p3⟩:=id h
 have hn:=Sq h
 have e:m.span k=(k*m.block,min m.size ((k+1)*m.block)):=by unfold Man.span;rw [if_neg (by omega)]
 rw [e]
 have h1:k+1≤(m.size+m.block-1)/m.block:=by
  have:=Ar (s:=m.size) (b:=m.block) p1.1 p2.1
  unfold Man.n at hk
  omega
 have h2:(k+1)*m.block≤m.size+m.block-1:=(Int.le_ediv_iff_mul_le (by omega)).1 h1
 have h3:(k+1)*m.block=k*m.block+m.block:=by rw [Int.add_mul,Int.one_mul]
 have h4:0≤k*m.block:=Int.mul_nonneg h0 (by omega)
 simp only
 omega
theorem Bu {m:Man} {k:Int} (hk:k<0∨m.n≤k):m.span k=(0,0):=by unfold Man.span;rw [if_pos hk]
theorem Uc {m:Man} {k:Int} (h:m.okP):(0≤(m.span k).1∧(m.span k).1≤65536)∧0≤(m.span k).2∧(m.span k).2≤65536:=by
 by_cases hk:k<0∨m.n≤k
 ·rw [Bu hk];simp
 ·have:=Gv h (by omega) (k:=k) (by omega);omega
theorem Yl (m:Man) (k:Int) (t:Bs) (p:List Bs) (h:m.okP) (hr:m.rt.length=16) (ht:t.length≤100000000000) (hD:D16 p) (hp:p.length≤1000000000):Ok 39 [.agg m.enc,.i k,sv t,rD p] (Is (.i (chE m k t p))):=by
 refine bU lw39 (by simp) ?_
 unfold c39
 obtain ⟨q1,q2,q3⟩:=nT hr
 have sb:=Uc (k:=k) h
 simp -implicitDefEqProofs only [rX,↓rY,aA,cells?,↓reduceIte,Nat.reduceEqDiff,Nat.reduceAdd,reduceCtorEq,aE,cxN,aK,q1,q2]
 refine aD (Ym m k h hr) ⟨⟨dH.1,trivial,trivial⟩,dH.2,rfl,trivial⟩ (by simp [ren,cD,enS]) trivial ?_
 simp -implicitDefEqProofs only [rX,↓rY,qg,rdK,aA,cells?,splice,↓reduceIte,Nat.reduceEqDiff,Nat.reduceAdd,reduceCtorEq,aE,aT,aX,wfV,cC,bR,j5,gL,i6,q1,q2]
 simp only [br,beq_iff_eq,beq_eq_false_iff_ne]
 refine ⟨fun h1=>?_,fun h1=>?_⟩
 ·unfold chE
  have:k<0∨m.n≤k:=by
   rcases yaO k 0 with h2|h2
   ·exact .inl h2
   ·rcases yaO k m.n with h3|h3
    ·have:=Gv h h2 h3;omega
    ·exact .inr h3
  rw [if_pos this]
 ·have hin:¬(k<0∨m.n≤k):=fun h2=>h1 (by rw [Bu h2])
  have tk2:yap 16 (yaq 2 m.enc)=us m.rt:=by
   show yap 16 (us m.rt)=_
   exact yad (by rw [dY,hr];exact yac _)
  refine ⟨by simp only [lo,Fx.hi];omega,fun h2=>?_,fun h2=>?_⟩
  ·unfold chE
   rw [if_neg hin,if_pos (.inl (by simpa using h2))]
  ·have h2':(t.length:Int)=(m.span k).2-(m.span k).1:=by simpa using h2
   refine aD (Vh t ht) ⟨⟨trivial,trivial⟩,rfl,trivial⟩ (by simp [ren,bE]) trivial ?_
   simp -implicitDefEqProofs only [rX,↓rY,↓reduceIte,Nat.reduceEqDiff,tk2]
   refine aD (Qp m h) tN rfl trivial ?_
   simp -implicitDefEqProofs only [rX,↓rY,↓reduceIte,Nat.reduceEqDiff]
   refine aD (acU (lf t) k m.n p m.rt oI hr hD hp) ⟨⟨dV.1,trivial,trivial,trivial,dV.1,trivial⟩,dV.2,rfl,rfl,⟨rfl,rfl⟩,dV.2,trivial⟩ rfl trivial ?_
   simp -implicitDefEqProofs only [rX,↓rY,aA,↓reduceIte,Nat.reduceEqDiff,Nat.reduceAdd,aT,aX,wfV]
   unfold chE
   rw [if_neg hin]
   cases hc:ckI (lf t) k m.n p m.rt with
   | true=>simp [br,h2']
   | false=>simp [br,h2']
def prE (t:Bs) (b k:Int):Int:=if mkE t b≠0 then mkE t b else inE (lvs t b.toNat) k
def prL (t:Bs) (b k:Int):List Bs:=if mkE t b≠0 then [] else inL (lvs t b.toNat) k
theorem Zs {t:Bs} {b:Int} (h:mkE t b=0):1≤b∧b≤4096∧t.length≤65536∧nL t.length b≤4096:=by
 unfold mkE at h
 split at h
 ·omega
 ·split at h
  ·omega
  ·omega
theorem Qv {t:Bs} {b:Int}:(mkM t b).rt.length=16:=by
 unfold mkM
 split
 ·exact gI _ _ rfl Hr
 ·rfl
theorem xG {f:Nat→Option Nat}:∀ l:List V,(∀ x∈l,∃ u,x=.v u)→cD f l=l
 | [],_=>rfl
 | x::r,h=>by
  obtain ⟨u,rfl⟩:=h x yaz
  show V.v u::cD f r=_
  rw [xG r fun y hy=>h y (yaw _ hy)]
theorem Co {m:Man} {f:Nat→Option Nat}:cD f m.enc=m.enc:=xG _ pJ
theorem adB (t:Bs) (b k:Int) (ht:t.length≤1000000000):Ok 29 [sv t,.i b,.i k] (Is (.tup [rD (prL t b k),.i (prE t b k)])):=by
 refine jX (R:=fun q hs=>wk (.tup [rD (prL t b k),.i (prE t b k)]) (gvV (fun _=>true) hs q)) ?_ fun _ _ h=>h
 refine bU lw29 (by simp) ?_
 unfold c29
 obtain ⟨q1,q2,q3⟩:=nT (m:=mkM t b) Qv
 obtain ⟨s1,s2,s3⟩:=nT (m:=Bg) rfl
 simp -implicitDefEqProofs only [rX,aA,↓reduceIte,Nat.reduceEqDiff,Nat.reduceAdd,reduceCtorEq,cxN,aK]
 refine aD (Yn t b ht) ⟨⟨trivial,trivial,trivial⟩,rfl,rfl,trivial⟩ (by simp [ren,cD,Co]) trivial ?_
 simp -implicitDefEqProofs only [rX,↓rY,aA,cells?,splice,↓reduceIte,Nat.reduceEqDiff,reduceCtorEq,aE,aT,aX,aC,wfV,wfL,q1,s1,s3,Hq,eM,zM]
 simp only [br,bne_iff_ne,bne_eq_false_iff_eq]
 refine ⟨fun h1=>⟨([]:List Blk),⟨trivial,yaj _,trivial⟩,?_⟩,fun h1=>?_⟩
 ·rw [prL,prE,if_pos h1,if_pos h1];simp [gvV,gvL,wk,wkL,wkR]
 ·obtain ⟨b1,b2,b3,b4⟩:=Zs h1
  obtain ⟨n,rfl⟩:∃ n:Nat,b=n:=⟨b.toNat,by omega⟩
  refine aD (Vi t n ⟨by omega,by omega⟩ ht) ⟨⟨trivial,trivial,trivial⟩,rfl,rfl,trivial⟩ (by simp [ren]) trivial ?_
  simp -implicitDefEqProofs only [rX,↓reduceIte,Nat.reduceEqDiff,reduceCtorEq]
  have hn:nb t.length n≤t.length:=Mn (by omega)
  refine aD (acV (lvs t n) k Hr (by rw [tO];omega)) ⟨⟨trivial,trivial,trivial⟩,⟨rfl,rfl⟩,rfl,trivial⟩ (by simp [ren,cD]) trivial ?_
  simp -implicitDefEqProofs only [rX,↓rY,↓reduceIte,Nat.reduceEqDiff,aT,aX,aC,wfV,wfL,eM]
  refine ⟨([]:List Blk),⟨trivial,yaj _,trivial⟩,?_⟩
  rw [prL,prE,if_neg (by simpa using h1),if_neg (by simpa using h1),yah]
  simp [gvV,gvL,wk,wkL,wkR]
end Go.Fx.H
namespace Go.Fx.H
open Go Go.Fx Go.Proofs Go.Fx.R
set_option maxRecDepth 20000
theorem Sw (s:Sp):Ok 112 [.agg (enS s)] (Is (.b (decide (s.2≤s.1)))):=by
 refine bU lw112 (by simp) ?_
 unfold c112
 simp -implicitDefEqProofs only [rX,↓rY,aA,cells?,↓reduceIte,Nat.reduceEqDiff,aE,aT,aX,wfV,cxN,j5,gL,aK]
def Dd (s:Sp):Bool:=decide (s.2≤s.1)||(decide (s.1≥0)&&decide (s.2≤1099511627776))
theorem Zn (s:Sp):Ok 113 [.agg (enS s)] (Is (.b (Dd s))):=by
 refine bU lw113 (by simp) ?_
 unfold c113
 simp -implicitDefEqProofs only [rX,↓rY,aA,cells?,↓reduceIte,Nat.reduceEqDiff,aE,cxN,bR,bW,aK]
 refine aD (Sw s) ⟨⟨⟨trivial,trivial,trivial⟩,trivial⟩,⟨rfl,rfl,trivial⟩,trivial⟩ rfl trivial ?_
 unfold Dd
 cases h1:decide (s.2≤s.1)<;>cases h2:decide (s.1≥0)<;>cases h3:decide (s.2≤1099511627776)<;>simp -implicitDefEqProofs only [rX,↓rY,aA,↓reduceIte,Nat.reduceEqDiff,aT,aX,wfV,j5,gL,h2,h3]<;>simp_all
def xC (l:List Sp) (k:Nat) (h:k<l.length):Bool:=(decide (l[k].2≤l[k].1)||!Dd l[k])||(decide (0<k)&&decide (l[k].1≤(l[k-1]'(by omega)).2))
structure OkR (l:List Sp) (k:Nat):Prop where
 h:∀ j (h:j<l.length),j<k→xC l j h=false
theorem Eg:∀ {l:List Sp} {t:Int},vdB t l=true↔∀ j (h:j<l.length),(0≤l[j].1∧l[j].1<l[j].2∧l[j].2≤1099511627776)∧(if j=0 then t<l[j].1 else (l[j-1]'(by omega)).2<l[j].1)
 | [],t=>by simp [vdB]
 | s::r,t=>by
  simp only [vdB,Bool.and_eq_true,decide_eq_true_eq,Eg (l:=r)]
  constructor
  ·rintro ⟨⟨⟨⟨h1,h2⟩,h3⟩,h4⟩,h5⟩ j hj
   cases j with
   | zero=>exact ⟨⟨h1,h2,h3⟩,h4⟩
   | succ j =>
    have:=h5 j (by simpa using hj)
    refine ⟨this.1,?_⟩
    have h6:=this.2
    simp only [List.getElem_cons_succ,Nat.add_eq_zero_iff,Nat.one_ne_zero,and_false,if_false]
    cases j with
    | zero=>simpa using h6
    | succ j=>simpa using h6
  ·intro h
   have h0:=h 0 (by simp)
   refine ⟨⟨⟨⟨h0.1.1,h0.1.2.1⟩,h0.1.2.2⟩,by simpa using h0.2⟩,fun j hj=>?_⟩
   have:=h (j+1) (by simpa using hj)
   refine ⟨this.1,?_⟩
   have h6:=this.2
   cases j with
   | zero=>simpa using h6
   | succ j=>simpa using h6
theorem Dp {l:List Sp} {k:Nat} {h:k<l.length}:xC l k h=false↔(0≤l[k].1∧l[k].1<l[k].2∧l[k].2≤1099511627776)∧(if k=0 then -1<l[k].1 else (l[k-1]'(by omega)).2<l[k].1):=by
 unfold xC Dd
 by_cases h0:k=0
 ·subst h0
  simp
  omega
 ·have h1:0<k:=by omega
  simp [h0,h1]
  omega
theorem OkR.all {l:List Sp} {k:Nat} (h:OkR l k) (hk:l.length≤k):vd l=true:=by
 unfold vd
 rw [Eg]
 intro j hj
 exact Dp.1 (h.h j hj (by omega))
theorem OkR.bad {l:List Sp} {k:Nat} (hk:k<l.length) (hb:xC l k hk=true):vd l=false:=by
 rw [←Bool.not_eq_true]
 intro hv
 unfold vd at hv
 rw [Eg] at hv
 have:=Dp.2 (hv k hk)
 rw [hb] at this
 cases this
theorem acY (l:List Sp):Ok 61 [aL l] (Is (.b (vd l))):=by
 refine bU lw61 (by simp) ?_
 unfold c61 aL
 simp -implicitDefEqProofs only [rX,aA,cxN,aK]
 refine aQ (fun k:Nat=>⟨[(3,.i k),(0,.ro 2 (l.map enS))],[],0⟩) (fun k=>k≤l.length∧OkR l k) (fun k=>l.length-k) 0 ⟨by omega,⟨fun j h hj=>by omega⟩⟩ ?_ ?_
 ·simp -implicitDefEqProofs only [rX,↓reduceIte,reduceCtorEq,leE,leH,aC,wfE,wfB,wfV,yaA]
 rintro k ⟨hk,hv⟩
 unfold c61l0
 simp -implicitDefEqProofs only [rX,↓rY,rdK,aA,↓reduceIte,Nat.reduceEqDiff,reduceCtorEq,aT,aX,wfV,yaf,yah,bR,bW]
 intro hm
 simp only [br,decide_eq_true_eq,decide_eq_false_iff_not]
 refine ⟨fun h=>?_,fun h=>?_⟩
 ·have hk':k<l.length:=by omega
  refine ⟨⟨by omega,h⟩,hk',?_⟩
  refine aD (Sw l[k]) ⟨⟨⟨trivial,trivial,trivial⟩,trivial⟩,⟨rfl,rfl,trivial⟩,trivial⟩ rfl trivial ?_
  have hgo:xC l k hk'=false→((lo IntKind.i64≤(k:Int)+1∧(k:Int)+1≤hi IntKind.i64)∧∃ g',((g'≤l.length∧OkR l g')∧l.length-g'<l.length-k)∧(k:Int)+1=(g':Int)):=fun hb =>
   ⟨by simp only [lo,hi,maxLen] at *;omega,k+1,⟨⟨by omega,⟨fun j h hj=>by
    by_cases e:j=k
    ·subst e;exact hb
    ·exact hv.h j h (by omega)⟩⟩,by omega⟩,by simp⟩
  cases h1:decide (l[k].2≤l[k].1) with
  | true =>
   simp -implicitDefEqProofs only [rX,↓rY,rdK,aA,↓reduceIte,Nat.reduceEqDiff,aT,aX,wfV]
   exact (OkR.bad hk' (by simp [xC,h1])).symm
  | false =>
   simp -implicitDefEqProofs only [rX,↓rY,rdK,↓reduceIte,Nat.reduceEqDiff,reduceCtorEq,yaf,yah,bR,bW]
   refine ⟨⟨by omega,h⟩,hk',?_⟩
   refine aD (Zn l[k]) ⟨⟨⟨trivial,trivial,trivial⟩,trivial⟩,⟨rfl,rfl,trivial⟩,trivial⟩ rfl trivial ?_
   cases h2:Dd l[k] with
   | false =>
    simp -implicitDefEqProofs only [rX,↓rY,rdK,aA,↓reduceIte,Nat.reduceEqDiff,aT,aX,wfV]
    exact (OkR.bad hk' (by simp [xC,h2])).symm
   | true =>
    cases h3:decide (0<k) with
    | false =>
     have h3':decide ((0:Int)<(k:Int))=false:=by simpa using h3
     simp -implicitDefEqProofs only [rX,↓rY,rdK,aA,↓reduceIte,Nat.reduceEqDiff,reduceCtorEq,aT,aX,leE,leH,aC,wfE,wfB,wfV,yaf,yah,j5,gL,h3']
     exact hgo (by simp [xC,h1,h2,h3])
    | true =>
     have h3':decide ((0:Int)<(k:Int))=true:=by simpa using h3
     have h4:0<k:=by simpa using h3
     have hto:((k:Int)-1).toNat=k-1:=by omega
     simp -implicitDefEqProofs only [rX,↓rY,rdK,aA,↓reduceIte,Nat.reduceEqDiff,reduceCtorEq,aT,aX,leE,leH,aC,wfE,wfB,wfV,yaf,yah,j5,gL,h3',hto]
     refine ⟨⟨by omega,h⟩,hk',by simp only [lo,hi,maxLen] at *;omega,by omega,by omega,?_⟩
     cases h5:decide (l[k].1≤(l[k-1]'(by omega)).2) with
     | true =>
      simp -implicitDefEqProofs only [↓rY]
      exact (OkR.bad hk' (by simp [xC,h3,h5])).symm
     | false =>
      simp -implicitDefEqProofs only [↓rY]
      exact hgo (by simp [xC,h1,h2,h5])
 ·exact (hv.all (by omega)).symm
theorem acX (l m:List Sp):Ok 66 [aL l,aL m] (Is (.b (l==m))):=by
 refine bU lw66 (by simp) ?_
 unfold c66 aL
 simp -implicitDefEqProofs only [rX,↓rY,aA,↓reduceIte,Nat.reduceEqDiff,reduceCtorEq,aT,aX,wfV,cxN,aK]
 intro hm1 hm2
 have hne:∀ j (h1:j<l.length) (h2:j<m.length),l[j]≠m[j]→(l==m)=false:=by
  intro j h1 h2 hne
  rw [beq_eq_false_iff_ne]
  intro e
  subst e
  exact hne rfl
 cases hb:(decide ((l.length:Int)=m.length)) with
 | false =>
  have hb':((l.length:Int) != (m.length:Int))=true:=by simpa using hb
  simp -implicitDefEqProofs only [↓rY,hb']
  rw [eq_comm,beq_eq_false_iff_ne]
  rintro rfl
  simp at hb
 | true =>
  have hb':((l.length:Int) != (m.length:Int))=false:=by simpa using hb
  have hlm:l.length=m.length:=by rw [decide_eq_true_eq] at hb;omega
  simp -implicitDefEqProofs only [↓rY,hb']
  refine aQ (fun k:Nat=>⟨[(5,.i k),(1,.ro 2 (m.map enS)),(0,.ro 2 (l.map enS))],[],0⟩) (fun k=>k≤l.length∧l.take k=m.take k) (fun k=>l.length-k) 0 ⟨by omega,by simp⟩ ?_ ?_
  ·simp -implicitDefEqProofs only [rX,↓reduceIte,Nat.reduceEqDiff,reduceCtorEq,leE,leH,aC,wfE,wfB,wfV,yaA]
  rintro k ⟨hk,hv⟩
  unfold c66l0
  simp -implicitDefEqProofs only [rX,↓rY,aA,↓reduceIte,Nat.reduceEqDiff,reduceCtorEq,aT,aX,leE,leH,aC,wfE,wfB,wfV,yaf,yah,bR,bW,aaK]
  simp only [br,decide_eq_true_eq,decide_eq_false_iff_not]
  refine fun hm'=>⟨fun h=>?_,fun h=>?_⟩
  ·have hk':k<l.length:=by omega
   have hk2:k<m.length:=by omega
   refine ⟨⟨by omega,h⟩,hk',⟨by omega,by omega⟩,hk2,?_⟩
   cases he:(l[k]==m[k]) with
   | true =>
    have he':l[k]=m[k]:=by simpa using he
    refine ⟨by simp,fun _=>⟨by simp only [lo,hi,maxLen] at *;omega,k+1,⟨⟨by omega,?_⟩,by omega⟩,by simp⟩⟩
    rw [yau,yau,hv,yai hk',yai hk2,he']
   | false=>exact ⟨fun _=>(hne k hk' hk2 (by simpa using he)).symm,by simp⟩
  ·have h1:l.take k=l:=yad (by omega)
   have h2:m.take k=m:=yad (by omega)
   rw [h1,h2] at hv
   simp [hv]
end Go.Fx.H
namespace Go.Fx.H
open Go Go.Fx Go.Proofs Go.Fx.R
set_option maxRecDepth 20000
end Go.Fx.H
namespace Go.Fx.H
open Go Go.Fx Go.Proofs Go.Fx.R
set_option maxRecDepth 20000
end Go.Fx.H
namespace Go.Fx.H
open Go Go.Fx Go.Proofs Go.Fx.R
set_option maxRecDepth 20000
def cov (l:List Sp) (s:Sp):Bool:=(fS (ofS [s]) l).isEmpty
theorem Qw {s:Sp} (h:BdS s):Mid [s]:=by
 intro t ht
 simp at ht;subst ht
 unfold BdS at h;omega
theorem Tq {s:Sp} (h:BdS s):Vd (ofS [s]):=Vd.of (by
 intro t ht;simp at ht;subst ht;exact h)
theorem acT (l:List Sp) (s:Sp) (hl:Vd l) (hs:BdS s):Ok 83 [aL l,.agg (enS s)] (Is (aL (fS (ofS [s]) l))):=by
 refine bU lw83 (by simp) ?_
 unfold c83
 simp -implicitDefEqProofs only [rX,↓rY,aA,cells?,↓reduceIte,Nat.reduceEqDiff,reduceCtorEq,aE,cF,Nat.reduceLT,cxN,bR,bW,nV,aK]
 refine dQ [1] [0] [1] [.sl 0 0 1] (aL (ofS [s])) (aL (ofS [s])) [.arr 2 [enS s]] [.dead] _ _ (Sr [s] (by simp) (Qw hs)) (by simp) (by simp) (by simp [blk,bQ]) (by simp [aM,bL,aZ,dF,wkL,wk,wkR,pos]) rfl rfl rfl trivial ?_
 simp -implicitDefEqProofs only [rX,↓reduceIte,Nat.reduceEqDiff,Nat.reduceAdd,reduceCtorEq,aS,bA,kill,St.kill,iT]
 refine aD (Vf (ofS [s]) l (Tq hs) hl) ⟨⟨trivial,trivial,trivial⟩,⟨rfl,rfl⟩,⟨rfl,rfl⟩,trivial⟩ rfl trivial ?_
 simp -implicitDefEqProofs only [rX,↓reduceIte,aT,aX,wfV]
theorem Rk {l:List Sp}:((l.length:Int)==0)=l.isEmpty:=by
 cases l with
 | nil=>rfl
 | cons a r=>simp;omega
theorem adA (l:List Sp) (s:Sp) (hl:Vd l) (hs:BdS s):Ok 42 [aL l,.agg (enS s)] (Is (.b (cov l s))):=by
 refine bU lw42 (by simp) ?_
 unfold c42
 simp -implicitDefEqProofs only [rX,↓rY,aA,cells?,↓reduceIte,Nat.reduceEqDiff,reduceCtorEq,aE,cxN,bR,bW,aK]
 refine aD (acT l s hl hs) ⟨⟨trivial,⟨trivial,trivial,trivial⟩,trivial⟩,⟨rfl,rfl⟩,⟨rfl,rfl,trivial⟩,trivial⟩ rfl trivial ?_
 simp -implicitDefEqProofs only [rX,↓rY,aA,↓reduceIte,aT,aX,wfV]
 intro hm
 rw [Rk];rfl
theorem Yj (l:List Sp) (hl:Vd l):Ok 44 [aL l] (Is (.i (tot l))):=by
 refine bU lw44 (by simp) ?_
 unfold c44 aL
 simp -implicitDefEqProofs only [rX,↓rY,aA,↓reduceIte,reduceCtorEq,cxN,aK]
 intro hm
 refine aQ (fun k:Nat=>⟨[(8,.i k),(7,.i l.length),(6,.ro 2 (l.map enS)),(3,.i (tot (l.take k)))],[],0⟩) (fun k=>k≤l.length) (fun k=>l.length-k) 0 (by omega) ?_ ?_
 ·simp -implicitDefEqProofs only [rX,↓reduceIte,Nat.reduceEqDiff,leE,leH,aC,wfE,wfB,wfV,yaA]
  rfl
 rintro k hk
 have ht:=(hl.take k).tot
 unfold c44l0
 simp -implicitDefEqProofs only [rX,↓rY,aA,cells?,splice,↓reduceIte,Nat.reduceEqDiff,Nat.reduceAdd,aE,aT,aX,leE,leH,aC,wfE,wfB,wfV,yaf,yah,bR,bW,j5,gL,i6]
 simp only [br,decide_eq_true_eq,decide_eq_false_iff_not]
 refine ⟨fun h=>?_,fun h=>?_⟩
 ·have hk':k<l.length:=by omega
  have hb:=hl.2 _ (yal hk')
  have ht':=(hl.take (k+1)).tot
  rw [Bp hk'] at ht'
  simp only [lo,hi,maxLen] at *
  refine ⟨⟨by omega,h⟩,hk',by omega,by omega,by omega,k+1,⟨by omega,by omega⟩,?_⟩
  rw [Bp hk']
  simp
 ·rw [yad (by omega)]
end Go.Fx.H
namespace Go.Fx.H
open Go Go.Fx Go.Proofs Go.Fx.R
set_option maxRecDepth 20000
def spn (t:Bs) (b i:Nat):Sp:=(((i*b:Nat):Int),((i*b:Nat):Int)+((bk t b i).length:Int))
def iR (hv:List Sp):Int:=(hv.getLast?.map (·.2)).getD 0
def dmE (m:Man) (ls:List Bs) (t:Bs) (hv:List Sp):Int :=
 if (ls.length:Int)≠m.n∨(t.length:Int)≠m.size∨vd hv=false∨(hv≠[]∧m.size<iR hv) then 1 else if root ls≠m.rt then 8 else 0
def dmg (ls:List Bs) (t:Bs) (b:Nat) (hv:List Sp) (i:Nat):Bool:=(lf (bk t b i) != ls.getD i [])&&cov hv (spn t b i)
def dmO (ls:List Bs) (t:Bs) (b:Nat) (hv:List Sp) (n:Nat):List Sp:=((yaU n).filter (dmg ls t b hv)).map (spn t b)
def dmL (m:Man) (ls:List Bs) (t:Bs) (hv:List Sp):List Sp:=if dmE m ls t hv≠0 then [] else ofS (dmO ls t m.block.toNat hv (nb t.length m.block.toNat))
theorem dm1 {m:Man} {ls:List Bs} {t:Bs} {hv:List Sp} (h:(ls.length:Int)≠m.n∨(t.length:Int)≠m.size∨vd hv=false∨(hv≠[]∧m.size<iR hv)):dmE m ls t hv=1:=if_pos h
theorem dm8 {m:Man} {ls:List Bs} {t:Bs} {hv:List Sp} (h:¬((ls.length:Int)≠m.n∨(t.length:Int)≠m.size∨vd hv=false∨(hv≠[]∧m.size<iR hv))) (h2:root ls≠m.rt):dmE m ls t hv=8:=by
 unfold dmE;rw [if_neg h,if_pos h2]
theorem dm0 {m:Man} {ls:List Bs} {t:Bs} {hv:List Sp} (h:¬((ls.length:Int)≠m.n∨(t.length:Int)≠m.size∨vd hv=false∨(hv≠[]∧m.size<iR hv))) (h2:root ls=m.rt):dmE m ls t hv=0:=by
 unfold dmE;rw [if_neg h,if_neg (by simpa using h2)]
theorem Fd {hv:List Sp} (h:hv≠[]) {hh:((hv.length:Int)-1).toNat<hv.length}:(hv[((hv.length:Int)-1).toNat]'hh).2=iR hv:=by
 unfold iR
 rw [ybn]
 have e:((hv.length:Int)-1).toNat=hv.length-1:=by omega
 rw [←e,yai hh];rfl
def pt:Nat→LCode→LCode
 | 0,.seq a _=>a
 | n+1,.seq _ b=>pt n b
 | _,c=>c
def rt:Nat→LCode→LCode
 | 0,c=>c
 | n+1,.seq _ b=>rt n b
 | _,c=>c
abbrev cT:Cx:=cxN Tryz.prog []
structure E14 (m:Man) (ls:List Bs) (t:Bs) (e:Env):Prop where
 g2:get e 2=sv t
 g4:get e 4=.ptr 0 0 0
 g5:get e 5=.ptr 1 0 0
 g7:get e 7=.ptr 2 0 0
abbrev h14 (m:Man) (ls:List Bs) (hv:List Sp):List Blk:=[.var m.enc,.var [bD ls],.var [aL hv]]
theorem c14_parts:c14=.seq (pt 0 c14) (.seq (pt 1 c14) (rt 2 c14)):=by rfl
section
variable {m:Man} {ls:List Bs} {t:Bs} {hv:List Sp} {N R:St→Prop} {X:Nat→St→Prop} {e:Env}
theorem Xl (hm:m.okP) (hr:m.rt.length=16) (hD:D16 ls) (hl:ls.length≤1000000000) (hh:hv.length≤1000000000) (hE:E14 m ls t e)
  (hN:∀ e',E14 m ls t e'→dmE m ls t hv=0→N ⟨e',h14 m ls hv,3⟩)
  (hR:∀ e' k,get e' 8=.v (.slice none 0 0)→get e' 9=.v (.int .i64 k)→dmE m ls t hv=k→k≠0→R ⟨e',h14 m ls hv,3⟩) :
  aw cT (pt 1 c14) N X R ⟨e,h14 m ls hv,3⟩:=by
 obtain ⟨g2,g4,g5,g7⟩:=hE
 obtain ⟨q1,q2,q3⟩:=nT (m:=m) hr
 have m0:m.enc[0]?=some (.i m.size):=rfl
 have tk2:yap 16 (yaq 2 m.enc)=us m.rt:=by
  show yap 16 (us m.rt)=_
  exact yad (by rw [dY,hr];exact yac _)
 conv=>arg 2;whnf
 simp -implicitDefEqProofs only [rX,↓rY,rdK,↓reduceIte,Nat.reduceEqDiff,Nat.reduceAdd,cxN,q1,q2,g4,g5]
 intro _
 refine aD (Qp m hm) tN rfl trivial ?_
 cases h1:((ls.length:Int) != m.n) with
 | true =>
  simp -implicitDefEqProofs only [rX,↓rY,qg,rdK,aA,↓reduceIte,Nat.reduceEqDiff,Nat.reduceAdd,h1]
  exact hR _ 1 rfl rfl (dm1 (.inl (by simpa using h1))) (by decide)
 | false =>
 simp -implicitDefEqProofs only [rX,↓rY,qg,rdK,aA,↓reduceIte,Nat.reduceEqDiff,Nat.reduceAdd,cC,h1,m0,g2,g4,g7]
 cases h2:((t.length:Int) != m.size) with
 | true =>
  simp -implicitDefEqProofs only [↓rY,kb]
  exact hR _ 1 rfl rfl (dm1 (.inr (.inl (by simpa using h2)))) (by decide)
 | false =>
 simp -implicitDefEqProofs only [↓rY,kc]
 refine aD (Vg hv) ⟨⟨trivial,trivial⟩,⟨rfl,rfl⟩,trivial⟩ rfl trivial ?_
 cases h3:vd hv with
 | false =>
  simp -implicitDefEqProofs only [rX,↓rY,rdK,aA,↓reduceIte,Nat.reduceEqDiff,Nat.reduceAdd]
  exact hR _ 1 rfl rfl (dm1 (.inr (.inr (.inl h3)))) (by decide)
 | true =>
 have hx1:(ls.length:Int)=m.n:=by simpa using h1
 have hx2:(t.length:Int)=m.size:=by simpa using h2
 simp -implicitDefEqProofs only [rX,↓rY,rdK,aA,↓reduceIte,Nat.reduceEqDiff,Nat.reduceAdd,yaf,gL,g4,g5,g7]
 intro _
 have hor:hv=[]∨hv≠[]:=by cases hv<;>simp
 rcases hor with rfl|hne
 ·have hz:¬((ls.length:Int)≠m.n∨(t.length:Int)≠m.size∨vd []=false∨(([]:List Sp)≠[]∧m.size<iR [])):=by simp [hx1,hx2,h3]
  simp -implicitDefEqProofs only [rX,↓rY,yaA,Int.lt_irrefl,decide_false,kc,tk2,q1]
  refine aD (Mf _ ls rfl hD (by omega)) ⟨⟨trivial,trivial⟩,⟨rfl,rfl⟩,trivial⟩ (by simp [ren,bE]) trivial ?_
  simp -implicitDefEqProofs only [rX,aA,↓reduceIte,Nat.reduceEqDiff,Nat.reduceAdd,rU (gI _ ls rfl hD) hr]
  cases h5:(root ls==m.rt) with
  | false =>
   simp only [yaV,kb]
   exact hR _ 8 rfl rfl (dm8 hz (by simpa using h5)) (by decide)
  | true =>
   simp only [yaW,kc]
   exact hN _ ⟨g2,g4,g5,g7⟩ (dm0 hz (by simpa using h5))
 ·have hp:0<hv.length:=List.length_pos_iff.2 hne
  have hlt:=fun hh=>Fd hne (hh:=hh)
  simp -implicitDefEqProofs only [rX,↓rY,decide_eq_true (show (0:Int)<(hv.length:Int) by omega),kb,m0,tk2,q1]
  intro _
  refine ⟨by simp only [lo,Fx.hi];omega,by omega,by omega,?_⟩
  rw [hlt]
  cases h4:decide (m.size<iR hv) with
  | true =>
   simp -implicitDefEqProofs only [↓rY,kb]
   exact hR _ 1 rfl rfl (dm1 (.inr (.inr (.inr ⟨hne,by simpa using h4⟩)))) (by decide)
  | false =>
  have hz:¬((ls.length:Int)≠m.n∨(t.length:Int)≠m.size∨vd hv=false∨(hv≠[]∧m.size<iR hv)):=by
   have:¬m.size<iR hv:=by simpa using h4
   simp [hx1,hx2,h3,this]
  simp -implicitDefEqProofs only [↓rY,kc]
  refine aD (Mf _ ls rfl hD (by omega)) ⟨⟨trivial,trivial⟩,⟨rfl,rfl⟩,trivial⟩ (by simp [ren,bE]) trivial ?_
  simp -implicitDefEqProofs only [rX,aA,↓reduceIte,Nat.reduceEqDiff,Nat.reduceAdd,rU (gI _ ls rfl hD) hr]
  cases h5:(root ls==m.rt) with
  | false =>
   simp only [yaV,kb]
   exact hR _ 8 rfl rfl (dm8 hz (by simpa using h5)) (by decide)
  | true =>
   simp only [yaW,kc]
   exact hN _ ⟨g2,g4,g5,g7⟩ (dm0 hz (by simpa using h5))
end
abbrev hpD (m:Man) (ls:List Bs) (t:Bs) (hv:List Sp) (b:Nat) (i:Nat):List Blk:=[.var m.enc,.var [bD ls],.var [aL hv],.var [.sl 7 0 (dmO ls t b hv i).length],.var [sv t],.var [.i b],.rcd .ready [(58,.clo 111 [.ptr 4 0 0,.ptr 5 0 0]),(10,.ptr 3 0 0),(2,sv t),(4,.ptr 0 0 0),(5,.ptr 1 0 0),(7,.ptr 2 0 0)],.arr 2 ((dmO ls t b hv i).map enS)]
theorem itD (m:Man) (ls:List Bs) (t:Bs) (hv:List Sp) (b:Nat) (hb:1≤b∧b≤1000000000) (ht:t.length≤1000000000):ItB (hpD m ls t hv b) 8 t b 6 4 5 [6]:=by
 refine ⟨hb,ht,fun g=>rfl,fun g tl=>rfl,fun g tl=>rfl,fun g=>⟨trivial,trivial⟩,fun g=>?_,fun g=>⟨_,_,rfl⟩⟩
 simp -implicitDefEqProofs only [rX,aB,wfE,wfB,wfV,wfL,rN]
theorem Ld {t:Bs} {b g:Nat} (hb:1≤b∧b≤1000000000) (ht:t.length≤1000000000) (h:g<nb t.length b):BdS (spn t b g)∧(spn t b g).1<(spn t b g).2:=by
 have hlt:=(xQ hb.1).2 h
 have hl:=Ay (t:=t) (b:=b) (j:=g)
 unfold BdS spn
 simp only
 omega
theorem j7 {ls:List Bs} {t:Bs} {b:Nat} {hv:List Sp} {n:Nat}:dmO ls t b hv (n+1)=dmO ls t b hv n++if dmg ls t b hv n=true then [spn t b n] else []:=by
 unfold dmO
 rw [List.range_succ,List.filter_append,yaI]
 congr 1
 cases h:dmg ls t b hv n<;>simp [h]
theorem Rl {ls:List Bs} {t:Bs} {b:Nat} {hv:List Sp} {n:Nat} (hb:1≤b∧b≤1000000000) (ht:t.length≤1000000000) (h:n≤nb t.length b):Mid (dmO ls t b hv n):=by
 intro s hs
 obtain ⟨g,hg,rfl⟩:=yaJ.1 hs
 have hg2:=yaK.1 (List.mem_filter.1 hg).1
 have:=Ld hb ht (show g<nb t.length b by omega)
 unfold BdS at this
 omega
theorem Nx {ls:List Bs} {t:Bs} {b:Nat} {hv:List Sp} {n:Nat}:(dmO ls t b hv n).length≤n:=by
 unfold dmO
 rw [yaN]
 exact ybf (List.length_filter_le _ _) (by simp)
theorem iC {m:Man} {M:List Nat}:bH M m.enc=m.enc:=lJ _ pJ
theorem aaL {m:Man} {ls:List Bs} {t:Bs} {hv:List Sp} {b:Nat} (hm:m.okP) (hb1:1≤b) (hb:m.block=b) (h:dmE m ls t hv=0):ls.length=nb t.length b∧Vd hv:=by
 unfold dmE at h
 split at h
 ·omega
 ·rename_i h1
  have h2:(ls.length:Int)=m.n:=Decidable.byContradiction fun c=>h1 (.inl c)
  have h3:(t.length:Int)=m.size:=Decidable.byContradiction fun c=>h1 (.inr (.inl c))
  have h4:vd hv=true:=by
   cases hv':vd hv with
   | true=>rfl
   | false=>exact absurd (.inr (.inr (.inl hv'))) h1
  refine ⟨?_,p8.1 h4⟩
  unfold Man.n at h2
  rw [←h3,hb,Vo hb1] at h2
  omega
theorem adF (m:Man) (ls:List Bs) (t:Bs) (hv:List Sp) (hm:m.okP) (hr:m.rt.length=16) (hD:D16 ls) (hl:ls.length≤1000000000) (ht:t.length≤1000000000) (hh:hv.length≤1000000000) :
  Ok 14 [.agg m.enc,bD ls,sv t,aL hv] (Is (.tup [aL (dmL m ls t hv),.i (dmE m ls t hv)])):=by
 refine jX (R:=fun q hs=>wk (.tup [aL (dmL m ls t hv),.i (dmE m ls t hv)]) (gvV (fun _=>true) hs q)) ?_ fun _ _ h=>h
 refine bU lw14 (by simp) ?_
 rw [c14_parts]
 obtain ⟨q1,q2,q3⟩:=nT (m:=m) hr
 obtain ⟨b,hb,hb2⟩:∃ b:Nat,m.block=b∧(1≤b∧b≤4096):=⟨m.block.toNat,by have:=hm.2.1;omega,by have:=hm.2.1;omega⟩
 have m1:m.enc[1]?=some (.i b):=by rw [←hb];rfl
 simp -implicitDefEqProofs only [qJ]
 conv=>arg 2;whnf
 simp -implicitDefEqProofs only [rX,↓rY,aA,cells?,↓reduceIte,Nat.reduceEqDiff,Nat.reduceAdd,reduceCtorEq,aE,cxN,aK]
 refine Xl hm hr hD hl hh ⟨rfl,rfl,rfl,rfl⟩ ?_ ?_
 ·rintro e ⟨g2,g4,g5,g7⟩ he0
  obtain ⟨hln,hvv⟩:=aaL hm hb2.1 hb he0
  conv=>arg 2;whnf
  simp -implicitDefEqProofs only [rX,↓rY,aA,cells?,↓reduceIte,Nat.reduceEqDiff,Nat.reduceAdd,aE,g2,g4,m1]
  refine eO [sv t,.i b] (.clo 111 [.ptr 0 0 0,.ptr 1 0 0]) (.clo 111 [.ptr 4 0 0,.ptr 5 0 0]) [.var [sv t],.var [.i b]] [.var [sv t],.var [.i b]] (Ve t b) ⟨⟨trivial,trivial,trivial⟩,rfl,rfl,trivial⟩ (by simp [ren,cD]) (by simp [bQ,cD,ren]) trivial ?_
  simp -implicitDefEqProofs only [rX]
  refine uG 6 rfl rfl trivial ?_
  refine pW (as':=[.itr 6,.ptr 4 0 0,.ptr 5 0 0]) (h':=hpD m ls t hv b 0) rfl ⟨_,.virt 1 2 (by decide) (.nilB 3 [.nil] [.sl 7 0 0] rfl ⟨rfl,fun i a b h1 h2=>?_⟩ (.refl _)),?_⟩ (Nb (Inv:=fun i g=>g=i) (itD m ls t hv b (by omega) ht) ?_ ?_ _ rfl)
  ·match i with
   | 0=>simp at h1 h2;subst h1 h2;exact .inr ⟨rfl,_,rfl⟩
   | i+1=>simp at h1
  ·simp -implicitDefEqProofs only [rX,↓reduceIte,Nat.reduceEqDiff,Nat.reduceAdd,reduceCtorEq,leE,leH,leB,leV,dE,aC,aB,wfE,wfB,wfV,wfL,aK,ybg,or_true,g2,g4,g5,g7,rN]
   refine ⟨cQ _,?_,?_⟩<;>rfl
  ·rintro i g hi rfl e2 bb Z he hZ
   refine Bi 8 rfl rfl rfl ?_
   unfold c14a0
   simp -implicitDefEqProofs only [rX,rZ,↓rW,↓reduceIte,Nat.reduceEqDiff,Nat.reduceAdd,gR]
   unfold c14r0
   simp -implicitDefEqProofs only [rX,↓rY,rdK,aA,cells?,splice,↓reduceIte,Nat.reduceEqDiff,Nat.reduceAdd,aE,bZ,isC,Nat.reduceLeDiff,yaf,cC,m1]
   have hbl:(bk t b g).length≤1000000000:=by rw [Ay];omega
   have hlt:=(xQ hb2.1).2 hi
   have hq:(((g*b:Nat):Int).tdiv (b:Int))=(g:Int):=by
    rw [Int.natCast_mul,Int.mul_tdiv_cancel _ (by omega)]
   have hgl:g<ls.length:=by rw [hln];exact hi
   simp only [hq,yah]
   obtain ⟨hbd,hss⟩:=Ld (t:=t) (by omega) ht hi
   obtain ⟨u1,u2,u3⟩:=fN (hD _ (yal hgl))
   have h1:g≤g*b:=Nat.le_mul_of_pos_right _ hb2.1
   refine ⟨by simp only [lo,Fx.hi];omega,by omega,by simp only [lo,Fx.hi];omega,by omega,hgl,by omega,?_⟩
   refine aD (Vh (bk t b g) (by omega)) ⟨⟨trivial,trivial⟩,rfl,trivial⟩ (by simp [ren,bE]) ⟨trivial,trivial,trivial⟩ ?_
   have hisd:dmg ls t b hv g=((lf (bk t b g) != ls[g])&&cov hv (spn t b g)):=by simp [dmg,List.getD,yai hgl]
   cases h6:(lf (bk t b g)==ls[g]) with
   | true =>
    simp -implicitDefEqProofs only [rX,↓rY,rZ,↓rW,rdK,aA,↓reduceIte,Nat.reduceEqDiff,Nat.reduceAdd,rU oI (hD _ (yal hgl)),h6,u2]
    have e1:dmO ls t b hv (g+1)=dmO ls t b hv g:=by rw [j7,hisd];simp [bne,h6]
    have hs:=hZ e2 (g+1) [.dead,.var (enS (spn t b g))] ⟨he.e0,he.e1,he.e2,he.e4⟩ rfl
    unfold hpD at hs
    rw [e1] at hs
    exact hs
   | false =>
    simp -implicitDefEqProofs only [rX,↓rY,rZ,↓rW,rdK,aA,↓reduceIte,Nat.reduceEqDiff,Nat.reduceAdd,rU oI (hD _ (yal hgl)),h6,u2]
    have es:spn t b g=(((g*b:Nat):Int),((g*b:Nat):Int)+((bk t b g).length:Int)):=rfl
    have o:=adA hv (spn t b g) hvv hbd
    rw [es] at o
    refine aD o ⟨⟨trivial,⟨trivial,trivial,trivial⟩,trivial⟩,⟨rfl,rfl⟩,⟨rfl,rfl,trivial⟩,trivial⟩ rfl ⟨trivial,trivial,trivial⟩ ?_
    rw [←es]
    cases h7:cov hv (spn t b g) with
    | false =>
     simp -implicitDefEqProofs only [rX,↓rY,rZ,↓rW,↓reduceIte,Nat.reduceEqDiff]
     have e1:dmO ls t b hv (g+1)=dmO ls t b hv g:=by rw [j7,hisd];simp [h7]
     have hs:=hZ e2 (g+1) [.dead,.var (enS (spn t b g))] ⟨he.e0,he.e1,he.e2,he.e4⟩ rfl
     unfold hpD at hs
     rw [e1] at hs
     exact hs
    | true =>
     simp -implicitDefEqProofs only [rX,↓rY,rZ,↓rW,cells?,splice,↓reduceIte,Nat.reduceEqDiff,Nat.reduceAdd,reduceCtorEq,aE,cF,aS,bA,kill,bH,St.kill,isD,isC,Nat.reduceLT]
     have hml:=Nx (ls:=ls) (t:=t) (b:=b) (hv:=hv) (n:=g)
     refine ⟨by omega,?_⟩
     have e1:dmO ls t b hv (g+1)=dmO ls t b hv g++[spn t b g]:=by rw [j7,hisd];simp [bne,h6,h7]
     have hs:=hZ (aS [7] e2) (g+1) [.dead,.var (enS (spn t b g)),.arr 2 [enS (spn t b g)],.dead] ?_ rfl
     ·unfold hpD at hs
      rw [e1,yaa,yaI,yaC] at hs
      rw [iC,yad (by simp)]
      exact hs
     ·refine ⟨?_,?_,?_,?_⟩<;>rw [a8]
      ·rw [he.e0];simp [kill]
      ·rw [he.e1];simp [kill]
      ·rw [he.e2];simp [kill]
      ·rw [he.e4];rfl
  ·rintro g rfl
   simp -implicitDefEqProofs only [rX,↓rY,rZ,↓rW,↓reduceIte,Nat.reduceEqDiff,Nat.reduceAdd,aB,wfE,wfB,wfV,wfL]
   refine ⟨rN,?_⟩
   have hml:=Nx (ls:=ls) (t:=t) (b:=b) (hv:=hv) (n:=nb t.length b)
   have hnb:=Mn (n:=t.length) hb2.1
   refine vR (dmO ls t b hv (nb t.length b)) rfl (by omega) (Rl (by omega) ht (yac _)) rfl rfl (by simp) trivial ?_
   simp -implicitDefEqProofs only [rX,aA,↓reduceIte,Nat.reduceEqDiff,reduceCtorEq,aT,aX,aC,wfV,wfL,aS,bA,kill,bH,St.kill,eM]
   have e1:dmL m ls t hv=ofS (dmO ls t b hv (nb t.length b)):=by
    unfold dmL;rw [if_neg (by rw [he0];decide),hb,yah]
   rw [e1,he0]
   refine ⟨([]:List Blk),⟨trivial,yaj _,trivial⟩,?_⟩
   simp [gvV,gvL,wk,wkL,wkR]
 ·intro e k g8 g9 hk hk0
  have e1:dmL m ls t hv=[]:=by unfold dmL;rw [if_pos (by rw [hk];exact hk0)]
  rw [eM,e1,hk]
  simp -implicitDefEqProofs only [rX,aT,aX,aC,wfV,wfL,g8,g9]
  refine ⟨([]:List Blk),⟨trivial,yaj _,trivial⟩,?_⟩
  simp [gvV,gvL,wk,wkL,wkR]
end Go.Fx.H
namespace Go.Fx.H
open Go Go.Fx Go.Proofs Go.Fx.R
set_option maxRecDepth 20000
abbrev h15 (m:Man):List Blk:=[.var m.enc,.var [.v (.slice none 0 0),.v (.int .i64 0)]]
section
end
theorem yT {M:Nat→Bool} {h:List Blk}:∀ l:List V,(∀ x∈l,∃ u,x=.v u)→gvL M h l=l
 | [],_=>rfl
 | x::r,hx=>by
  obtain ⟨u,rfl⟩:=hx x yaz
  show V.v u::gvL M h r=_
  rw [yT r fun y hy=>hx y (yaw _ hy)]
theorem Vr {m:Man} {M:Nat→Bool} {h:List Blk}:gvL M h m.enc=m.enc:=yT _ pJ
theorem Ov {l:List Sp} {s:Sp}:nO (ofS l) s=ofS (l++[s]):=by
 rw [Qr];rfl
end Go.Fx.H
namespace Go.Fx.H
open Go Go.Fx Go.Proofs Go.Fx.R
set_option maxRecDepth 20000
def len (s:Sp):Int:=s.2-s.1
def As (s t:Sp):Int:=len s-len t
theorem Qo (s t:Sp) (hs:BdS s) (ht:BdS t):Ok 68 [.agg (enS s),.agg (enS t)] (Is (.i (As s t))):=by
 refine bU lw68 (by simp) ?_
 unfold c68
 unfold BdS at hs ht
 simp -implicitDefEqProofs only [rX,↓rY,aA,cells?,↓reduceIte,Nat.reduceEqDiff,Nat.reduceAdd,reduceCtorEq,aE,aT,aX,wfV,cxN,j5,gL,aK]
 refine ⟨by simp only [lo,Fx.hi];omega,by simp only [lo,Fx.hi];omega,by simp only [lo,Fx.hi];omega,?_⟩
 rfl
def lt (s t:Sp):Prop:=len s<len t∨(len s=len t∧s.1<t.1)
instance:DecidableRel lt:=fun s t=>inferInstanceAs (Decidable (_∨_))
theorem mN {s t u:Sp} (h:lt s t) (h2:lt t u):lt s u:=by unfold lt at *;omega
theorem Vs {s:Sp}:¬lt s s:=by unfold lt;omega
theorem uY {s t:Sp} (h:s.1<t.1∨t.1<s.1):lt s t∨lt t s:=by unfold lt;omega
def SrL (l:List Sp):Prop:=l.Pairwise lt
def Fg (x:Sp):List Sp→List Sp
 | []=>[x]
 | y::r=>if lt x y then x::y::r else y::Fg x r
def bC:List Sp→List Sp
 | []=>[]
 | x::r=>Fg x (bC r)
theorem rP {x:Sp}:∀ {l:List Sp},(Fg x l).Perm (x::l)
 | []=>.refl _
 | y::r=>by
  unfold Fg
  split
  ·exact .refl _
  ·exact (rP.cons y).trans (.swap x y r)
theorem aR:∀ {l:List Sp},(bC l).Perm l
 | []=>.refl _
 | x::r=>rP.trans (aR.cons x)
theorem Br:∀ {l m:List Sp},SrL l→SrL m→l.Perm m→l=m
 | [],m,_,_,h=>by have:=h.length_eq;cases m with
  | nil=>rfl
  | cons=>simp at this
 | x::r,[],_,_,h=>by have:=h.length_eq;simp at this
 | x::r,y::t,hl,hm,h=>by
  have hl':=yae.1 hl
  have hm':=yae.1 hm
  have exy:x=y:=by
   have h1:x∈y::t:=h.mem_iff.1 (by simp)
   have h2:y∈x::r:=h.mem_iff.2 (by simp)
   rcases yar.1 h1 with h1|h1
   ·exact h1
   ·rcases yar.1 h2 with h2|h2
    ·exact h2.symm
    ·exact absurd (mN (hl'.1 y h2) (hm'.1 x h1)) Vs
  subst exy
  rw [Br hl'.2 hm'.2 (List.Perm.cons_inv h)]
def Asc (l:List Sp):Prop:=l.Pairwise fun s t=>s.1<t.1
def Dst (l:List Sp):Prop:=l.Pairwise fun s t=>s.1≠t.1
theorem j6 {l m:List Sp} (h:Dst l) (hp:l.Perm m):Dst m:=hp.pairwise h (fun h=>Ne.symm h)
theorem Cw {x:Sp}:∀ {l:List Sp},SrL l→Dst (x::l)→SrL (Fg x l)
 | [],_,_=>by simp [Fg,SrL]
 | y::r,h,hd=>by
  have h':=yae.1 h
  have hd':=yae.1 hd
  unfold Fg
  split
  ·rename_i hxy
   refine yae.2 ⟨fun z hz=>?_,h⟩
   rcases yar.1 hz with rfl|hz
   ·exact hxy
   ·exact mN hxy (h'.1 z hz)
  ·rename_i hxy
   refine yae.2 ⟨fun z hz=>?_,Cw h'.2 (yae.2 ⟨fun z hz=>hd'.1 z (by simp [hz]),(yae.1 hd'.2).2⟩)⟩
   have hz':=rP.mem_iff.1 hz
   rcases yar.1 hz' with rfl|hz'
   ·have:=hd'.1 y (by simp)
    rcases uY (s:=z) (t:=y) (by omega) with h|h
    ·exact absurd h hxy
    ·exact h
   ·exact h'.1 z hz'
theorem eF:∀ {l:List Sp},Dst l→SrL (bC l)
 | [],_=>by simp [bC,SrL]
 | x::r,h=>by
  have h':=yae.1 h
  refine Cw (eF h'.2) (yae.2 ⟨fun z hz=>h'.1 z (aR.mem_iff.1 hz),j6 h'.2 aR.symm⟩)
theorem oZ {l m:List Sp} (h:SrL m) (hp:m.Perm l) (hd:Dst l):bC l=m:=Br (eF hd) h (aR.trans hp.symm)
theorem nG {l:List Sp} (h:Asc l):Dst l:=h.imp fun h=>by omega
theorem Lf {α:Type} {A B:List α} {x y:α}:((A++y::x::B).set A.length x).set (A.length+1) y=A++x::y::B:=by
 rw [yaD _ _ (yac _),Nat.sub_self,List.set_cons_zero,yaD _ _ (by omega)]
 simp
theorem It {α:Type} {A B:List α} {x y:α}:((A++y::x::B).set (A.length+1) y).set A.length x=A++x::y::B:=by
 rw [yaD _ _ (by omega),yaD _ _ (yac _)]
 simp
theorem vA {S M:List Sp} {x:Sp} {g:Nat} (hS:SrL S) (hp:S.Perm M) (hd:Dst (M++[x])) (hgt:∀ y∈S.drop g,lt x y) (hle:∀ y∈S.take g,lt y x):bC (M++[x])=S.take g++x::S.drop g:=by
 refine oZ ?_ ?_ hd
 ·have h0:=hS
  rw [←yag g S] at h0
  obtain ⟨h1,h2,h3⟩:=yas.1 h0
  refine yas.2 ⟨h1,yae.2 ⟨hgt,h2⟩,fun y hy z hz=>?_⟩
  rcases yar.1 hz with rfl|hz
  ·exact hle y hy
  ·exact h3 y hy z hz
 ·refine List.perm_middle.trans ?_
  rw [yag]
  exact (hp.cons x).trans (List.perm_append_singleton x M).symm
abbrev rw2 (l:List Sp):Blk:=.arr 2 (l.map enS)
def mid (P S:List Sp) (x:Sp) (T:List Sp) (g:Nat):List Sp:=P++(S.take g++x::S.drop g)++T
theorem Ms {P S T:List Sp} {x:Sp} {g:Nat} (hg:g≤S.length) (hh:((P.length:Int)+g).toNat<(mid P S x T g).length):(mid P S x T g)[((P.length:Int)+g).toNat]'hh=x:=by
 have e:((P.length:Int)+g).toNat=P.length+g:=by omega
 have hl:(S.take g).length=g:=by rw [yab];omega
 simp only [e,mid]
 rw [yax (by simp;omega),yan (by omega),yan (by omega)]
 simp [hl]
theorem Sz {P S T:List Sp} {x:Sp} {g:Nat} (hg:1≤g) (hS:g-1<S.length) (hh:((P.length:Int)+g-1).toNat<(mid P S x T g).length):(mid P S x T g)[((P.length:Int)+g-1).toNat]'hh=S[g-1]:=by
 have e:((P.length:Int)+g-1).toNat=P.length+(g-1):=by omega
 have hl:(S.take g).length=g:=by rw [yab];omega
 simp only [e,mid]
 rw [yax (by simp;omega),yan (by omega),yax (by omega)]
 simp
theorem Mt {P S T:List Sp} {x:Sp} {g:Nat} (hg:1≤g) (hS:g-1<S.length):((mid P S x T g).set ((P.length:Int)+g).toNat S[g-1]).set ((P.length:Int)+g-1).toNat x=mid P S x T (g-1):=by
 have e1:((P.length:Int)+g).toNat=(P++S.take (g-1)).length+1:=by rw [yaa,yab];omega
 have e2:((P.length:Int)+g-1).toNat=(P++S.take (g-1)).length:=by rw [yaa,yab];omega
 have e3:S.take g=S.take (g-1)++[S[g-1]]:=by
  have:=yau (l:=S) (i:=g-1)
  rw [yai hS,show g-1+1=g by omega] at this
  exact this
 have e4:mid P S x T g=(P++S.take (g-1))++S[g-1]::x::(S.drop g++T):=by unfold mid;rw [e3];simp only [yak,yaX,yaP]
 have e5:mid P S x T (g-1)=(P++S.take (g-1))++x::S[g-1]::(S.drop g++T):=by
  unfold mid;rw [yao hS,show g-1+1=g by omega];simp
 rw [e1,e2,e4,e5]
 exact It
theorem Gu {L L':List Sp} {i j:Nat} {x y:Sp} {hh:j<((L.map enS).set i (enS y)).length} (h:(L.set i y).set j x=L'):Blk.arr 2 (((L.map enS).set i (enS y)).set j (enS x++yaq 2 (((L.map enS).set i (enS y))[j]'hh)))=rw2 L':=by
 have e1:(L.map enS).set i (enS y)=(L.set i y).map enS:=List.map_set.symm
 have e2:yaq 2 (((L.map enS).set i (enS y))[j]'hh)=[]:=by
  simp only [e1,yaf];rfl
 rw [e2,yay,e1,←List.map_set,h]
theorem Sv (P M Q:List Sp) (a b:Int) (n:Nat) (hn:n=(P++M++Q).length) (h:n≤100000) (ha:a=P.length) (hb:b=P.length+M.length) (hasc:Asc M) (hbd:Bd M) :
  OkN Tryz.prog 155 [.sl 0 0 n,.i a,.i b,.clo 68 []] [rw2 (P++M++Q)] [] (IsA (.tup []) [rw2 (P++bC M++Q)]):=by
 subst ha hb
 have hlen:n=P.length+M.length+Q.length:=by rw [hn];simp;omega
 refine fR pol [0] lw155 (by simp) ⟨trivial,trivial⟩ (fun k hk hm=>by simp at hk ⊢;omega) ?_
 unfold c155
 simp -implicitDefEqProofs only [rX,↓rY,aA,↓reduceIte,Nat.reduceAdd,reduceCtorEq,cxN,aK]
 refine ⟨by simp only [lo,Fx.hi];omega,?_⟩
 refine aQ (fun k:Nat=>⟨[(8,.i (P.length+k)),(0,.sl 0 0 n),(1,.i P.length),(2,.i (P.length+M.length)),(3,.clo 68 [])],[rw2 (P++(bC (M.take k)++M.drop k)++Q)],0⟩) (fun k=>1≤k∧k≤max 1 M.length) (fun k=>1+M.length-k) 1 (by omega) ?_ ?_
 ·have e1:bC (M.take 1)++M.drop 1=M:=by cases M with
   | nil=>rfl
   | cons x r=>rfl
  rw [e1]
  simp -implicitDefEqProofs only [rX,↓reduceIte,Nat.reduceEqDiff,reduceCtorEq,leE,leH,leB,aC,aB,wfE,wfB,wfV,wfL,Int.natCast_one]
 rintro k ⟨hk1,hk⟩
 unfold c155l0
 simp -implicitDefEqProofs only [rX,↓rY,↓reduceIte,Nat.reduceEqDiff,reduceCtorEq]
 cases hd:decide ((P.length:Int)+k<P.length+M.length) with
 | false =>
  have hkm:k=max 1 M.length:=by have:=of_decide_eq_false hd;omega
  simp only [kc]
  rw [yad (by omega),yam (by omega),bT]
  simp -implicitDefEqProofs only [rX,aT,aX,leH,leB,aC,aB,wfB,wfV,wfL]
 | true =>
 have hkm:k<M.length:=by have:=of_decide_eq_true hd;omega
 have hPb:Bd M:=hbd
 have hsl:(bC (M.take k)).length=k:=by rw [aR.length_eq,yab];omega
 have hin:rw2 (P++(bC (M.take k)++M.drop k)++Q)=rw2 (mid P (bC (M.take k)) M[k] (M.drop (k+1)++Q) k):=by
  unfold mid
  rw [yao hkm,yad (show (bC (M.take k)).length≤k by omega),yam (show (bC (M.take k)).length≤k by omega)]
  simp only [yak,yaX,yaP]
 rw [hin,kb]
 have hdst:Dst M:=nG hasc
 have hS:SrL (bC (M.take k)):=eF (hdst.sublist (yaE k M))
 have hSM:(bC (M.take k)).Perm (M.take k):=aR
 have hSx:∀ y∈bC (M.take k),y.1<M[k].1:=by
  intro y hy
  have hy':=hSM.mem_iff.1 hy
  have h0:=hasc
  rw [←yag k M] at h0
  refine (yas.1 h0).2.2 y hy' _ ?_
  rw [yao hkm];exact yaz
 have hSb:Bd (bC (M.take k)):=fun y hy=>hbd y (ybp (hSM.mem_iff.1 hy))
 have hxb:BdS M[k]:=hbd _ (yal hkm)
 have hfin:∀ g,g≤k→(∀ y∈(bC (M.take k)).drop g,lt M[k] y)→(∀ y∈(bC (M.take k)).take g,lt y M[k])→rw2 (mid P (bC (M.take k)) M[k] (M.drop (k+1)++Q) g)=rw2 (P++(bC (M.take (k+1))++M.drop (k+1))++Q):=by
  intro g hg h1 h2
  have e1:M.take (k+1)=M.take k++[M[k]]:=by rw [yau,yai hkm];rfl
  have h0:Dst (M.take k++[M[k]]):=by rw [←e1];exact hdst.sublist (yaE _ M)
  rw [e1,vA hS hSM h0 h1 h2,mid]
  simp
 generalize bC (M.take k)=S at *
 generalize hx:M[k]=x at *
 refine aQ (fun g:Nat=>⟨[(9,.i (P.length+g)),(8,.i (P.length+k)),(0,.sl 0 0 n),(1,.i P.length),(2,.i (P.length+M.length)),(3,.clo 68 [])],[rw2 (mid P S x (M.drop (k+1)++Q) g)],0⟩) (fun g=>g≤k∧∀ y∈S.drop g,lt x y) (fun g=>g) k ⟨yac _,by rw [yam (by omega)];simp⟩ ?_ ?_
 ·simp -implicitDefEqProofs only [rX,↓reduceIte,Nat.reduceEqDiff,reduceCtorEq,leE,leH,leB,aC,aB,wfE,wfB,wfV,wfL]
 rintro g ⟨hg,hgt⟩
 have hml:(mid P S x (M.drop (k+1)++Q) g).length=n:=by simp [mid,hlen];omega
 unfold c155l1
 simp -implicitDefEqProofs only [rX,↓rY,aA,↓reduceIte,Nat.reduceEqDiff,fL,reduceCtorEq,leE,leH,leB,aC,aB,wfE,wfB,wfV,wfL,yaf,bR,bW]
 cases hd2:decide ((P.length:Int)<P.length+g) with
 | false =>
  have hg0:g=0:=by have:=of_decide_eq_false hd2;omega
  subst hg0
  simp -implicitDefEqProofs only [↓rY]
  refine ⟨by simp only [lo,Fx.hi];omega,k+1,⟨by omega,by omega⟩,by omega,hfin 0 (by omega) (by simpa using hgt) (by simp)⟩
 | true =>
 have hg1:1≤g:=by have:=of_decide_eq_true hd2;omega
 simp -implicitDefEqProofs only [↓rY,hml]
 have hgS:g-1<S.length:=by omega
 have h1:∀ hh,(mid P S x (M.drop (k+1)++Q) g)[((P.length:Int)+g).toNat]'hh=x:=Ms (by omega)
 have h2:∀ hh,(mid P S x (M.drop (k+1)++Q) g)[((P.length:Int)+g-1).toNat]'hh=S[g-1]:=Sz (by omega) hgS
 refine ⟨by omega,by omega,by simp only [lo,Fx.hi];omega,by omega,by omega,?_⟩
 rw [h1,h2]
 have hyb:=hSb _ (yal hgS)
 have hyx:=hSx _ (yal hgS)
 refine aD (Qo x S[g-1] hxb hyb) ⟨⟨⟨trivial,trivial,trivial⟩,⟨trivial,trivial,trivial⟩,trivial⟩,⟨rfl,rfl,trivial⟩,⟨rfl,rfl,trivial⟩,trivial⟩ rfl ⟨trivial,trivial⟩ ?_
 have hc:decide (As x S[g-1]<0)=decide (lt x S[g-1]):=by
  unfold As lt
  exact decide_eq_decide.2 (by omega)
 simp -implicitDefEqProofs only [rX,↓rY,rdK,aA,cells?,splice,↓reduceIte,Nat.reduceEqDiff,fL,reduceCtorEq,leE,leH,leB,aC,aB,wfE,wfB,wfV,wfL,yaf,bR,bW,i6,nV,mS,hc]
 cases hd3:decide (lt x S[g-1]) with
 | false =>
  have hn3:¬lt x S[g-1]:=of_decide_eq_false hd3
  have hl3:lt S[g-1] x:=(uY (.inl hyx)).resolve_right hn3
  simp -implicitDefEqProofs only [↓rY,kc]
  refine ⟨by simp only [lo,Fx.hi];omega,k+1,⟨by omega,by omega⟩,by omega,hfin g hg hgt fun y hy=>?_⟩
  rw [show g=g-1+1 by omega,yau,yai hgS] at hy
  rcases yaL.1 hy with hy|hy
  ·refine mN ?_ hl3
   have h0:=hS
   rw [←yag (g-1) S] at h0
   refine (yas.1 h0).2.2 y hy _ ?_
   rw [yao hgS];exact yaz
  ·simp at hy;subst hy;exact hl3
 | true =>
  have hl3:lt x S[g-1]:=of_decide_eq_true hd3
  simp -implicitDefEqProofs only [↓rY,kb,hml,h1,h2]
  refine ⟨by simp only [lo,Fx.hi];omega,by simp only [lo,Fx.hi];omega,by omega,by omega,by omega,by omega,by omega,by omega,by omega,by simp;omega,by simp only [lo,Fx.hi];omega,g-1,⟨⟨by omega,fun y hy=>?_⟩,by omega⟩,by omega,?_⟩
  ·rw [yao hgS] at hy
   rcases yar.1 hy with rfl|hy
   ·exact hl3
   ·rw [show g-1+1=g by omega] at hy;exact hgt y hy
  ·exact Gu (Mt (by omega) hgS)
end Go.Fx.H
namespace Go.Fx.H
open Go Go.Fx Go.Proofs Go.Fx.R
set_option maxRecDepth 20000
def swr (P A C B Q:List Sp) (i:Nat):List Sp:=P++((B.take i++A.drop i)++(C++((A.take i++B.drop i)++Q)))
theorem Qc {P A C B Q:List Sp} {i:Nat} (h:A.length=B.length):(swr P A C B Q i).length=P.length+A.length+C.length+B.length+Q.length:=by
 unfold swr
 simp only [yaa,yab,yat]
 omega
theorem Xb {P A C B Q:List Sp} {i:Nat} (h:A.length=B.length) (hi:i<A.length) (hh:((P.length:Int)+i).toNat<(swr P A C B Q i).length):(swr P A C B Q i)[((P.length:Int)+i).toNat]'hh=A[i]:=by
 have e:((P.length:Int)+i).toNat=P.length+i:=by omega
 have hl:(B.take i).length=i:=by rw [yab];omega
 simp only [e,swr]
 rw [yan (by omega),yax (by simp;omega),yan (by omega)]
 simp [hl]
theorem Xa {P A C B Q:List Sp} {i:Nat} {b:Int} (h:A.length=B.length) (hi:i<A.length) (hb:b=P.length+A.length+C.length) (hh:(b+i).toNat<(swr P A C B Q i).length):(swr P A C B Q i)[(b+i).toNat]'hh=B[i]:=by
 subst hb
 have e:((P.length:Int)+A.length+C.length+i).toNat=P.length+(A.length+(C.length+i)):=by omega
 have hl:(A.take i).length=i:=by rw [yab];omega
 have hl2:(B.take i++A.drop i).length=A.length:=by rw [yaa,yab,yat];omega
 simp only [e,swr]
 rw [yan (by omega),yan (by omega),yan (by omega),yax (by simp;omega),yan (by omega)]
 simp [hl,hl2]
theorem Bt {α:Type} {A:List α} {i:Nat} (h:i<A.length):∃ A1 A2,A=A1++A[i]::A2∧A1.length=i :=
 ⟨A.take i,A.drop (i+1),by rw [←yao h,yag],by rw [yab];omega⟩
theorem Sm {P A1 A2 C B1 B2 Q:List Sp} {x y:Sp} {i:Nat} (h1:A1.length=i) (h2:B1.length=i):swr P (A1++x::A2) C (B1++y::B2) Q i=P++((B1++x::A2)++(C++((A1++y::B2)++Q))):=by
 subst h1
 unfold swr
 rw [yaF (by omega),yad (show B1.length≤A1.length by omega),yaG (yac _),List.drop_length,yaF (yac _),ybe,yaG (by omega),yam (show B1.length≤A1.length by omega)]
 rfl
theorem Tz {P A1 A2 C B1 B2 Q:List Sp} {x y:Sp} {i:Nat} (h1:A1.length=i) (h2:B1.length=i):swr P (A1++x::A2) C (B1++y::B2) Q (i+1)=P++((B1++y::A2)++(C++((A1++x::B2)++Q))):=by
 have:=Sm (P:=P) (A1:=A1++[x]) (A2:=A2) (C:=C) (B1:=B1++[y]) (B2:=B2) (Q:=Q) (x:=x) (y:=y) (i:=i+1) (by simp [h1]) (by simp [h2])
 unfold swr
 rw [show A1++x::A2=(A1++[x])++A2 by simp,show B1++y::B2=(B1++[y])++B2 by simp]
 rw [yaF (by simp;omega),yad (show (B1++[y]).length≤i+1 by simp;omega),yaG (by simp;omega),yam (show (A1++[x]).length≤i+1 by simp;omega),yaF (by simp;omega),yad (show (A1++[x]).length≤i+1 by simp;omega),yaG (by simp;omega),yam (show (B1++[y]).length≤i+1 by simp;omega)]
 simp
theorem Lg {X Y Z:List Sp} {u v:Sp} {i:Nat} (hX:X.length=i):((X++u::Y)++Z).set i v=(X++v::Y)++Z:=by
 rw [List.set_append_left _ _ (by simp;omega),yaD _ _ (by omega),hX,Nat.sub_self];rfl
theorem o5 {X Z:List Sp} {k:Nat} {v:Sp}:(X++Z).set (X.length+k) v=X++Z.set k v:=by
 rw [yaD _ _ (by omega),Nat.add_sub_cancel_left]
theorem Ty {P A C B Q:List Sp} {i:Nat} {b:Int} (h:A.length=B.length) (hi:i<A.length) (hb:b=P.length+A.length+C.length) :
  ((swr P A C B Q i).set ((P.length:Int)+i).toNat (B[i]'(by omega))).set (b+i).toNat A[i]=swr P A C B Q (i+1):=by
 have hiB:i<B.length:=by omega
 obtain ⟨A1,A2,hA,hA1⟩:=Bt hi
 obtain ⟨B1,B2,hB,hB1⟩:=Bt hiB
 have e:((P.length:Int)+i).toNat=P.length+i:=by omega
 have e2:(b+i).toNat=P.length+(A.length+(C.length+i)):=by omega
 have hl3:(B1++B[i]::A2).length=A.length:=by
  have:=congrArg ybh hA
  simp at this ⊢;omega
 rw [e,e2,←hl3]
 generalize A[i]=x at *
 generalize B[i]=y at *
 subst hA hB
 rw [Sm hA1 hB1,Tz hA1 hB1,o5,Lg hB1,o5,o5,o5,Lg hA1]
theorem Mg (P A C B Q:List Sp) (a b:Int) (n:Nat) (hn:n=(P++(A++(C++(B++Q)))).length) (h:n≤100000) (hAB:A.length=B.length) (ha:a=P.length) (hb:b=P.length+A.length+C.length) :
  OkN Tryz.prog 210 [.sl 0 0 n,.i a,.i b,.i A.length,.clo 68 []] [rw2 (P++(A++(C++(B++Q))))] [] (IsA (.tup []) [rw2 (P++(B++(C++(A++Q))))]):=by
 have hlen:n=P.length+A.length+C.length+B.length+Q.length:=by rw [hn];simp;omega
 subst ha
 refine fR pol [0] lw210 (by simp) ⟨trivial,trivial⟩ (fun k hk hm=>by simp at hk ⊢;omega) ?_
 unfold c210
 simp -implicitDefEqProofs only [rX,aA,Nat.reduceAdd,cxN,aK]
 refine aQ (fun i:Nat=>⟨[(10,.i i),(0,.sl 0 0 n),(1,.i P.length),(2,.i b),(3,.i A.length)],[rw2 (swr P A C B Q i)],0⟩) (fun i=>i≤A.length) (fun i=>A.length-i) 0 (yaj _) ?_ ?_
 ·have e0:swr P A C B Q 0=P++(A++(C++(B++Q))):=by simp [swr]
  simp -implicitDefEqProofs only [rX,↓reduceIte,Nat.reduceEqDiff,reduceCtorEq,leE,leH,leB,aC,aB,wfE,wfB,wfV,e0,yaA]
 rintro i hi
 have hml:=Qc (P:=P) (A:=A) (C:=C) (B:=B) (Q:=Q) (i:=i) hAB
 unfold c210l0
 simp -implicitDefEqProofs only [rX,↓rY,rdK,aA,cells?,splice,↓reduceIte,Nat.reduceEqDiff,fL,reduceCtorEq,leE,leH,leB,aC,aB,wfE,wfB,wfV,yaf,bR,bW,i6,nV,mS]
 cases hd:decide ((i:Int)<A.length) with
 | false =>
  have hie:i=A.length:=by have:=of_decide_eq_false hd;omega
  have e0:swr P A C B Q A.length=P++(B++(C++(A++Q))):=by
   unfold swr
   rw [yad (by omega),yam (by omega),yad (by omega),yam (by omega)]
   simp
  subst hie
  simp -implicitDefEqProofs only [rX,↓rY,aT,aX,leH,leB,aC,aB,wfB,wfV,wfL,kc,bT,e0]
 | true =>
 have hil:i<A.length:=by have:=of_decide_eq_true hd;omega
 simp -implicitDefEqProofs only [↓rY,kb,hml]
 have h1:∀ hh,(swr P A C B Q i)[((P.length:Int)+i).toNat]'hh=A[i]:=Xb hAB hil
 have h2:∀ hh,(swr P A C B Q i)[(b+i).toNat]'hh=B[i]'(by omega):=Xa hAB hil hb
 refine ⟨by simp only [lo,Fx.hi];omega,by simp only [lo,Fx.hi];omega,by simp only [lo,Fx.hi];omega,by omega,by omega,by simp only [lo,Fx.hi];omega,by omega,by omega,by omega,by omega,by omega,by simp;omega,by simp only [lo,Fx.hi];omega,i+1,⟨by omega,by omega⟩,by omega,?_⟩
 rw [h1,h2]
 exact Gu (Ty hAB hil hb)
theorem fK {cx:Cx} {f:FuncId} {args:List V} {e:Env} {b:Nat} {K:V→St→Prop} {L L':List Sp} (xs:List V) (hC:cx.C f xs [rw2 L] [] (IsA (.tup []) [rw2 L'])) (hbn:0∉cx.bn)
  (ha:aM [rw2 L] (pos [0]) args∧wkL xs (aZ [rw2 L] (pos [0]) args)) (keep:aC cx.fx [rw2 L']) (h3:K (.tup []) ⟨e,[rw2 L'],b⟩):eL cx f args ⟨e,[rw2 L],b⟩ K:=by
 refine eK [0] xs (.tup []) (.tup []) [rw2 L] [rw2 L'] [rw2 L'] hC ⟨by simp,fun k hk=>?_⟩ rfl ha (by simp) rfl rfl keep h3
 simp at hk
 subst hk
 exact ⟨by simp,hbn⟩
structure Pa (P L R Q p u v q:List Sp):Prop where
 hu:1≤u.length
 hv:1≤v.length
 hp:p.length+u.length=P.length+L.length
 ht:p++(v++(u++q))=P++(R++(L++Q))
abbrev G4:=List Sp × List Sp × List Sp × List Sp
theorem Pa.len {P L R Q p u v q:List Sp} (h:Pa P L R Q p u v q):p.length+v.length+u.length+q.length=P.length+L.length+R.length+Q.length:=by
 have:=congrArg ybh h.ht
 simp at this;omega
theorem Yp (P L R Q:List Sp) (a m b:Int) (n:Nat) (hn:n=(P++(L++(R++Q))).length) (h:n≤100000) (ha:a=P.length) (hm:m=P.length+L.length) (hb:b=P.length+L.length+R.length) (hL:1≤L.length) (hR:1≤R.length) :
  OkN Tryz.prog 181 [.sl 0 0 n,.i a,.i m,.i b,.clo 68 []] [rw2 (P++(L++(R++Q)))] [] (IsA (.tup []) [rw2 (P++(R++(L++Q)))]):=by
 have hlen:n=P.length+L.length+R.length+Q.length:=by rw [hn];simp;omega
 refine fR pol [0] lw181 (by simp) ⟨trivial,trivial⟩ (fun k hk hm=>by simp at hk ⊢;omega) ?_
 unfold c181
 simp -implicitDefEqProofs only [rX,↓rY,↓reduceIte,Nat.reduceEqDiff,Nat.reduceAdd,reduceCtorEq,cxN,aK]
 refine ⟨by simp only [lo,Fx.hi];omega,by simp only [lo,Fx.hi];omega,?_⟩
 refine aQ (fun g:G4=>⟨[(10,.i g.2.1.length),(11,.i g.2.2.1.length),(0,.sl 0 0 n),(2,.i m),(4,.clo 68 [])],[rw2 (g.1++(g.2.1++(g.2.2.1++g.2.2.2)))],0⟩) (fun g=>Pa P L R Q g.1 g.2.1 g.2.2.1 g.2.2.2) (fun g=>g.2.1.length+g.2.2.1.length) (P,L,R,Q) ⟨hL,hR,rfl,rfl⟩ ?_ ?_
 ·simp -implicitDefEqProofs only [rX,↓reduceIte,Nat.reduceEqDiff,reduceCtorEq,leE,leH,leB,aC,aB,wfE,wfB,wfV,wfL]
  refine ⟨?_,?_⟩<;>congr 1<;>omega
 rintro ⟨p,u,v,q⟩ hI
 have hIl:=hI.len
 obtain ⟨hu,hv,hp,ht⟩:=hI
 simp only at hu hv hp ht hIl
 have hnn:n=(p++(u++(v++q))).length:=by simp;omega
 unfold c181l0
 simp -implicitDefEqProofs only [rX,↓rY,↓reduceIte,Nat.reduceEqDiff,reduceCtorEq]
 cases hd:((u.length:Int) != v.length) with
 | false =>
  have huv:u.length=v.length:=by
   have:(u.length:Int)=v.length:=by simpa using hd
   omega
  simp -implicitDefEqProofs only [↓rY,kc]
  refine ⟨by simp only [lo,Fx.hi];omega,?_⟩
  have o:=Mg p u [] v q (m-u.length) m n (by simpa using hnn) h huv (by omega) (by simp;omega)
  refine fK _ o (by simp) ⟨⟨trivial,trivial,trivial,trivial,trivial,trivial⟩,rfl,rfl,rfl,rfl,⟨rfl,trivial⟩,trivial⟩ ⟨trivial,trivial⟩ ?_
  simp -implicitDefEqProofs only [rX,aT,aX,leH,leB,aC,aB,wfB,wfV,wfL,bT]
  rw [ht]
 | true =>
 have huv:u.length≠v.length:=by
  have:(u.length:Int)≠v.length:=by simpa using hd
  omega
 simp -implicitDefEqProofs only [↓rY,kb]
 cases hd2:decide ((v.length:Int)<u.length) with
 | true =>
  have hlt:v.length<u.length:=by have:=of_decide_eq_true hd2;omega
  have hu2:u=u.take v.length++u.drop v.length:=(yag _ _).symm
  have hu1l:(u.take v.length).length=v.length:=by rw [yab];omega
  have hu2l:(u.drop v.length).length=u.length-v.length:=by rw [yat]
  have o:=Mg p (u.take v.length) (u.drop v.length) v q (m-u.length) m n (by simp;omega) h hu1l (by omega) (by omega)
  rw [hu1l] at o
  have e1:p++(u.take v.length++(u.drop v.length++(v++q)))=p++(u++(v++q)):=by rw [←yak (u.take _),←hu2]
  rw [e1] at o
  simp only [kb]
  refine ⟨by simp only [lo,Fx.hi];omega,fK _ o (by simp) ⟨⟨trivial,trivial,trivial,trivial,trivial,trivial⟩,rfl,rfl,rfl,rfl,⟨rfl,trivial⟩,trivial⟩ ⟨trivial,trivial⟩ ?_⟩
  simp -implicitDefEqProofs only [rX,↓rY,↓reduceIte,Nat.reduceEqDiff,reduceCtorEq,leE,leH,leB,aC,aB,wfE,wfB,wfV,wfL]
  have hI':Pa P L R Q (p++v) (u.drop v.length) (u.take v.length) q:=by
   refine ⟨by omega,by omega,by rw [yaa];omega,?_⟩
   rw [←ht,yak,←yak (u.take _),←hu2]
  refine ⟨by simp only [lo,Fx.hi];omega,(p++v,u.drop v.length,u.take v.length,q),⟨hI',by simp only;omega⟩,⟨by simp only;omega,by simp only;omega⟩,by simp⟩
 | false =>
  have hlt:u.length<v.length:=by have:=of_decide_eq_false hd2;omega
  have hv2:v=v.take (v.length-u.length)++v.drop (v.length-u.length):=(yag _ _).symm
  have hv1l:(v.take (v.length-u.length)).length=v.length-u.length:=by rw [yab];omega
  have hv2l:(v.drop (v.length-u.length)).length=u.length:=by rw [yat];omega
  have o:=Mg p u (v.take (v.length-u.length)) (v.drop (v.length-u.length)) q (m-u.length) (m+v.length-u.length) n (by simp;omega) h (by omega) (by omega) (by omega)
  have e1:p++(u++(v.take (v.length-u.length)++(v.drop (v.length-u.length)++q)))=p++(u++(v++q)):=by rw [←yak (v.take _),←hv2]
  rw [e1] at o
  simp only [kc]
  refine ⟨by simp only [lo,Fx.hi];omega,by simp only [lo,Fx.hi];omega,by simp only [lo,Fx.hi];omega,fK _ o (by simp) ⟨⟨trivial,trivial,trivial,trivial,trivial,trivial⟩,rfl,rfl,rfl,rfl,⟨rfl,trivial⟩,trivial⟩ ⟨trivial,trivial⟩ ?_⟩
  simp -implicitDefEqProofs only [rX,↓rY,↓reduceIte,Nat.reduceEqDiff,reduceCtorEq,leE,leH,leB,aC,aB,wfE,wfB,wfV,wfL]
  have hI':Pa P L R Q p (v.drop (v.length-u.length)) (v.take (v.length-u.length)) (u++q):=by
   refine ⟨by omega,by omega,by omega,?_⟩
   rw [←ht,←yak (v.take _),←hv2]
  refine ⟨by simp only [lo,Fx.hi];omega,(p,v.drop (v.length-u.length),v.take (v.length-u.length),u++q),⟨hI',by simp only;omega⟩,⟨by simp only;omega,by simp only;omega⟩,rfl⟩
end Go.Fx.H
namespace Go.Fx.H
open Go Go.Fx Go.Proofs Go.Fx.R
set_option maxRecDepth 20000
structure tA (L R:List Sp):Prop where
 hL:SrL L
 hR:SrL R
 sep:∀ x∈L,∀ y∈R,x.1<y.1
 bd:Bd (L++R)
 dst:Dst (L++R)
def Tg (P L R Q:List Sp):Prop:=∀ (n:Nat) (a m b:Int),n=(P++(L++(R++Q))).length→n≤100000→a=P.length→m=P.length+L.length→b=P.length+L.length+R.length→tA L R→1≤L.length→1≤R.length →
 OkN Tryz.prog 156 [.sl 0 0 n,.i a,.i m,.i b,.clo 68 []] [rw2 (P++(L++(R++Q)))] [] (IsA (.tup []) [rw2 (P++(bC (L++R)++Q))])
abbrev cM:Cx:=cxN Tryz.prog [0]
theorem c156_parts:c156=.seq (pt 0 c156) (.seq (pt 1 c156) (rt 2 c156)):=by rfl
theorem o0 {x:Int} (h0:0≤x) (h:x≤1000000) {K:V→Prop}:cA .shr .u64 (IntKind.u64.wrap x) 1 K=K (.v (.int .u64 (x/2))):=by
 have e:IntKind.u64.wrap x=x:=by rw [wrap64];omega
 rw [e,Xe]
 have e2:(x.fdiv (2 ^ (min (1:Int).toNat 64)))=x/2:=by
  rw [show (2:Int) ^ (min (1:Int).toNat 64)=2 from rfl,Int.fdiv_eq_ediv_of_nonneg _ (by omega)]
 rw [e2]
 exact propext ⟨fun h=>h.2,fun h=>⟨by decide,h⟩⟩
theorem mX {x:Int} (h0:0≤x) (h:x≤1000000):IntKind.i64.wrap (x/2)=x/2:=iY _ _ (by simp only [lo,Fx.hi];omega)
theorem Zt {P S T:List Sp} {x:Sp} {g c:Nat} {k:Int} (hg:g≤S.length) (hc:c<g) (hk:k=P.length+c) (hh:k.toNat<(mid P S x T g).length):(mid P S x T g)[k.toNat]'hh=S[c]'(by omega):=by
 subst hk
 have e:((P.length:Int)+c).toNat=P.length+c:=by omega
 have hl:(S.take g).length=g:=by rw [yab];omega
 simp only [e,mid]
 rw [yax (by simp;omega),yan (by omega),yax (by omega)]
 simp
theorem Sy {P S T:List Sp} {x:Sp} {g c:Nat} {k:Int} (hg:g≤c) (hc:c<S.length) (hk:k=P.length+1+c) (hh:k.toNat<(mid P S x T g).length):(mid P S x T g)[k.toNat]'hh=S[c]:=by
 subst hk
 have e:((P.length:Int)+1+c).toNat=P.length+(g+(1+(c-g))):=by omega
 have hl:(S.take g).length=g:=by rw [yab];omega
 have e2:x::S.drop g=[x]++S.drop g:=rfl
 simp only [e,mid,e2]
 rw [yax (by simp;omega),yan (by omega),yan (by omega),yan (by simp;omega)]
 simp only [hl,List.getElem_drop,yaC]
 congr 1
 omega
theorem Ey {P S T:List Sp} {x:Sp} {g:Nat} {k:Int} (hg:g≤S.length) (hk:k=P.length+g) (hh:k.toNat<(mid P S x T g).length):(mid P S x T g)[k.toNat]'hh=x:=by
 subst hk
 exact Ms hg hh
theorem Hn {P S T:List Sp} {x:Sp} {g:Nat}:(mid P S x T g).length=P.length+S.length+1+T.length:=by
 have:(S.take g).length+(S.drop g).length=S.length:=by rw [←yaa,yag]
 unfold mid
 simp only [yaa,yaY]
 omega
theorem Vq {P S T:List Sp} {x:Sp} {g:Nat} {k k1:Int} (hS:g<S.length) (hk:k=P.length+g) (hk1:k1=P.length+g+1):((mid P S x T g).set k.toNat S[g]).set k1.toNat x=mid P S x T (g+1):=by
 subst hk hk1
 have hl:(S.take g).length=g:=by rw [yab];omega
 have e1:((P.length:Int)+g).toNat=(P++S.take g).length:=by rw [yaa,hl];omega
 have e2:((P.length:Int)+g+1).toNat=(P++S.take g).length+1:=by rw [yaa,hl];omega
 have e3:S.take (g+1)=S.take g++[S[g]]:=by rw [yau,yai hS];rfl
 have e4:mid P S x T g=(P++S.take g)++x::S[g]::(S.drop (g+1)++T):=by
  unfold mid;rw [yao hS];simp only [yak,yaX]
 have e5:mid P S x T (g+1)=(P++S.take g)++S[g]::x::(S.drop (g+1)++T):=by
  unfold mid;rw [e3];simp only [yak,yaX,yaP]
 rw [e1,e2,e4,e5]
 exact Lf
theorem tG {R:List Sp} {x y:Sp} {h:Nat} (hR:SrL R) (hy:R[h]?=some y) (hl:lt y x):∀ z∈R.take (h+1),lt z x:=by
 intro z hz
 rw [yau,hy] at hz
 rcases yaL.1 hz with hz|hz
 ·refine mN ?_ hl
  have h0:=hR
  rw [←yag h R] at h0
  refine (yas.1 h0).2.2 z hz _ ?_
  exact List.mem_of_getElem? (i:=0) (by rw [List.getElem?_drop];exact hy)
 ·simp at hz;subst hz;exact hl
theorem tT {R:List Sp} {x y:Sp} {h:Nat} (hR:SrL R) (hy:R[h]?=some y) (hl:lt x y):∀ z∈R.drop h,lt x z:=by
 intro z hz
 obtain ⟨hh,rfl⟩:=List.getElem?_eq_some_iff.1 hy
 rw [yao hh] at hz
 rcases yar.1 hz with rfl|hz
 ·exact hl
 ·refine mN hl ?_
  have h0:=hR
  rw [←yag h R,yao hh] at h0
  exact (yae.1 (yas.1 h0).2.1).1 z hz
theorem t7 {l m:List Sp} (h:l.Perm m) (hd:Dst m):bC l=bC m:=by
 have hd':Dst l:=j6 hd h.symm
 exact oZ (eF hd) (aR.trans h.symm) hd'
section
variable {P L R Q:List Sp} {x:Sp} {n:Nat} {a m b:Int} {N Z:St→Prop} {X:Nat→St→Prop} {e:Env} {bb:Nat}
structure Se (n:Nat) (a m b:Int) (e:Env):Prop where
 e0:get e 0=.sl 0 0 n
 e1:get e 1=.i a
 e2:get e 2=.i m
 e3:get e 3=.i b
 e4:get e 4=.clo 68 []
theorem Uk (hn:n=(P++(L++(R++Q))).length) (h:n≤100000) (ha:a=P.length) (hm:m=P.length+L.length) (hb:b=P.length+L.length+R.length) (hI:tA L R) (hL:1≤L.length) (hR:1≤R.length)
  (hE:Se n a m b e) (hN:∀ e b',Se n a m b e→2≤L.length→N ⟨e,[rw2 (P++(L++(R++Q)))],b'⟩) (hZ:∀ e b',Z ⟨e,[rw2 (P++(bC (L++R)++Q))],b'⟩) :
  aw cM (pt 0 c156) N X Z ⟨e,[rw2 (P++(L++(R++Q)))],bb⟩:=by
 obtain ⟨e0,e1,e2,e3,e4⟩:=hE
 have hlen:n=P.length+L.length+R.length+Q.length:=by rw [hn];simp;omega
 conv=>arg 2;whnf
 simp -implicitDefEqProofs only [rX,↓rY,aA,↓reduceIte,Nat.reduceEqDiff,cxN,e1,e2,e3]
 refine ⟨by simp only [lo,Fx.hi];omega,?_⟩
 cases hd:(m-a==1) with
 | false =>
  have:m-a≠1:=by simpa using hd
  simp -implicitDefEqProofs only [↓rY,kc]
  exact hN _ _ ⟨e0,e1,e2,e3,e4⟩ (by omega)
 | true =>
 have h1:L.length=1:=by
  have:m-a=1:=by simpa using hd
  omega
 obtain ⟨x,rfl⟩:∃ x,L=[x]:=by
  match L,h1 with
  | [x],_=>exact ⟨x,rfl⟩
 have e9:P++([x]++(R++Q))=mid P R x Q 0:=by simp [mid]
 rw [e9]
 have hml:=fun g=>Hn (P:=P) (S:=R) (T:=Q) (x:=x) (g:=g)
 have hxb:BdS x:=hI.bd x (by simp)
 simp -implicitDefEqProofs only [↓rY,kb]
 refine aQ (fun g:Nat × Nat=>⟨[(10,.i (m+g.1)),(11,.i (m+g.2)),(0,.sl 0 0 n),(1,.i a),(4,.clo 68 [])],[rw2 (mid P R x Q 0)],bb⟩) (fun g=>g.1≤g.2∧g.2≤R.length∧(g.1=0∨∃ y,R[g.1-1]?=some y∧lt y x)∧(g.2=R.length∨∃ y,R[g.2]?=some y∧lt x y)) (fun g=>g.2-g.1) (0,R.length) ⟨yaj _,yac _,.inl rfl,.inl rfl⟩ ?_ ?_
 ·simp -implicitDefEqProofs only [rX,↓reduceIte,Nat.reduceEqDiff,reduceCtorEq,leE,leH,leB,aC,aB,wfE,wfB,wfV,wfL,e0,e1,e4]
  simp only [yaC] at *
  exact ⟨by omega,by omega⟩
 rintro ⟨i,j⟩ ⟨hij,hj,hi1,hj1⟩
 simp only [yaC] at hij hj hi1 hj1 hm hb hlen
 unfold c156l0
 simp -implicitDefEqProofs only [rX,↓rY,aA,↓reduceIte,Nat.reduceEqDiff,fL,reduceCtorEq,yaf,bR,bW]
 cases hd2:decide (m+(i:Int)<m+j) with
 | false =>
  have hij2:i=j:=by have:=of_decide_eq_false hd2;omega
  subst hij2
  simp -implicitDefEqProofs only [↓rY,kc]
  have hlow:∀ z∈R.take i,lt z x:=by
   rcases hi1 with h0|⟨y,hy,hl⟩
   ·subst h0;simp
   ·rcases yav i with h0|h0
    ·subst h0;simp
    ·rw [show i=i-1+1 by omega];exact tG hI.hR hy hl
  have hhigh:∀ z∈R.drop i,lt x z:=by
   rcases hj1 with h0|⟨y,hy,hl⟩
   ·rw [yam (by omega)];simp
   ·exact tT hI.hR hy hl
  have hres:rw2 (mid P R x Q i)=rw2 (P++(bC ([x]++R)++Q)):=by
   have hd':Dst (R++[x]):=j6 hI.dst ybq
   rw [t7 (m:=R++[x]) ybq hd',vA hI.hR (.refl _) hd' hhigh hlow]
   simp [mid]
  refine aQ (fun t:Nat=>⟨[(13,.i (a+t)),(10,.i (m+i)),(0,.sl 0 0 n)],[rw2 (mid P R x Q t)],bb⟩) (fun t=>t≤i) (fun t=>i-t) 0 (yaj _) ?_ ?_
  ·simp -implicitDefEqProofs only [rX,↓reduceIte,Nat.reduceEqDiff,reduceCtorEq,leE,leH,leB,aC,aB,wfE,wfB,wfV,yaA,Int.add_zero]
  rintro t ht
  unfold c156l1
  simp -implicitDefEqProofs only [rX,↓rY,rdK,aA,cells?,splice,↓reduceIte,Nat.reduceEqDiff,fL,reduceCtorEq,leE,leH,leB,aC,aB,wfE,wfB,wfV,yaf,bR,bW,i6,nV,mS]
  refine ⟨by simp only [lo,Fx.hi];omega,?_⟩
  cases hd3:decide (a+(t:Int)<m+i-1) with
  | false =>
   have hti:t=i:=by have:=of_decide_eq_false hd3;omega
   subst hti
   simp -implicitDefEqProofs only [↓rY,kc]
   rw [hres]
   exact hZ _ _
  | true =>
   have hti:t<R.length:=by have:=of_decide_eq_true hd3;omega
   have hti2:t<i:=by have:=of_decide_eq_true hd3;omega
   simp -implicitDefEqProofs only [↓rY,kb,hml]
   have h1:∀ hh,(mid P R x Q t)[(a+(t:Int)).toNat]'hh=x:=Ey (by omega) (by omega)
   have h2:∀ hh,(mid P R x Q t)[(a+(t:Int)+1).toNat]'hh=R[t]:=Sy (yac _) hti (by omega)
   refine ⟨by simp only [lo,Fx.hi];omega,by simp only [lo,Fx.hi];omega,by omega,by omega,by omega,by omega,by omega,by omega,by omega,by simp [hml];omega,by simp only [lo,Fx.hi];omega,t+1,⟨by omega,by omega⟩,by omega,?_⟩
   rw [h1,h2]
   exact Gu (Vq hti (by omega) (by omega))
 | true =>
 have hij2:i<j:=by have:=of_decide_eq_true hd2;omega
 have hc:(m+(i:Int)+(m+j))/2=m+((i+j)/2:Nat):=by omega
 generalize hcc:(i+j)/2=c at hc
 have hcR:c<R.length:=by omega
 simp -implicitDefEqProofs only [↓rY,kb]
 rw [o0 (by omega) (by omega),hc]
 have hw:IntKind.i64.wrap (m+(c:Int))=m+c:=by rw [←hc];exact mX (by omega) (by omega)
 simp -implicitDefEqProofs only [rX,hw,hml]
 refine ⟨by simp only [lo,Fx.hi];omega,by omega,by omega,by omega,by omega,?_⟩
 have h1:∀ hh,(mid P R x Q 0)[(m+(c:Int)).toNat]'hh=R[c]:=Sy (yaj _) hcR (by omega)
 have h2:∀ hh,(mid P R x Q 0)[a.toNat]'hh=x :=
  Ey (yaj _) (by omega)
 rw [h1,h2]
 have hyb:BdS R[c]:=hI.bd _ (by simp)
 have hsep:=hI.sep x (by simp) R[c] (yal hcR)
 refine aD (Qo R[c] x hyb hxb) ⟨⟨⟨trivial,trivial,trivial⟩,⟨trivial,trivial,trivial⟩,trivial⟩,⟨rfl,rfl,trivial⟩,⟨rfl,rfl,trivial⟩,trivial⟩ rfl ⟨trivial,trivial⟩ ?_
 have hcm:decide (As R[c] x<0)=decide (lt R[c] x):=by
  unfold As lt
  exact decide_eq_decide.2 (by omega)
 have hcy:R[c]?=some R[c]:=yai hcR
 simp -implicitDefEqProofs only [rX,↓rY,aA,↓reduceIte,Nat.reduceEqDiff,reduceCtorEq,leE,leH,leB,aC,aB,wfE,wfB,wfV,wfL,hcm]
 cases hd3:decide (lt R[c] x) with
 | true =>
  have hl3:lt R[c] x:=of_decide_eq_true hd3
  simp only [kb]
  refine ⟨by simp only [lo,Fx.hi];omega,(c+1,j),⟨⟨by simp only;omega,hj,.inr ⟨R[c],hcy,hl3⟩,hj1⟩,by simp only;omega⟩,by simp only;omega,rfl⟩
 | false =>
  have hl3:lt x R[c]:=(uY (.inl hsep)).resolve_right (of_decide_eq_false hd3)
  simp only [kc]
  refine ⟨(i,c),⟨⟨by simp only;omega,by simp only;omega,hi1,.inr ⟨R[c],hcy,hl3⟩⟩,by simp only;omega⟩,rfl,rfl⟩
theorem Uj (hn:n=(P++(L++(R++Q))).length) (h:n≤100000) (ha:a=P.length) (hm:m=P.length+L.length) (hb:b=P.length+L.length+R.length) (hI:tA L R) (hL:1≤L.length) (hR:1≤R.length)
  (hE:Se n a m b e) (hN:∀ e b',Se n a m b e→2≤R.length→N ⟨e,[rw2 (P++(L++(R++Q)))],b'⟩) (hZ:∀ e b',Z ⟨e,[rw2 (P++(bC (L++R)++Q))],b'⟩) :
  aw cM (pt 1 c156) N X Z ⟨e,[rw2 (P++(L++(R++Q)))],bb⟩:=by
 obtain ⟨e0,e1,e2,e3,e4⟩:=hE
 have hlen:n=P.length+L.length+R.length+Q.length:=by rw [hn];simp;omega
 conv=>arg 2;whnf
 simp -implicitDefEqProofs only [rX,↓rY,aA,↓reduceIte,Nat.reduceEqDiff,cxN,e1,e2,e3]
 refine ⟨by simp only [lo,Fx.hi];omega,?_⟩
 cases hd:(b-m==1) with
 | false =>
  have:b-m≠1:=by simpa using hd
  simp -implicitDefEqProofs only [↓rY,kc]
  exact hN _ _ ⟨e0,e1,e2,e3,e4⟩ (by omega)
 | true =>
 have h1:R.length=1:=by
  have:b-m=1:=by simpa using hd
  omega
 obtain ⟨x,rfl⟩:∃ x,R=[x]:=by
  match R,h1 with
  | [x],_=>exact ⟨x,rfl⟩
 have e9:P++(L++([x]++Q))=mid P L x Q L.length:=by simp [mid]
 rw [e9]
 have hml:=fun g=>Hn (P:=P) (S:=L) (T:=Q) (x:=x) (g:=g)
 have hxb:BdS x:=hI.bd x (by simp)
 simp -implicitDefEqProofs only [↓rY,kb]
 refine aQ (fun g:Nat × Nat=>⟨[(14,.i (a+g.1)),(15,.i (a+g.2)),(0,.sl 0 0 n),(2,.i m),(4,.clo 68 [])],[rw2 (mid P L x Q L.length)],bb⟩) (fun g=>g.1≤g.2∧g.2≤L.length∧(g.1=0∨∃ y,L[g.1-1]?=some y∧lt y x)∧(g.2=L.length∨∃ y,L[g.2]?=some y∧lt x y)) (fun g=>g.2-g.1) (0,L.length) ⟨yaj _,yac _,.inl rfl,.inl rfl⟩ ?_ ?_
 ·simp -implicitDefEqProofs only [rX,↓reduceIte,Nat.reduceEqDiff,reduceCtorEq,leE,leH,leB,aC,aB,wfE,wfB,wfV,wfL,e0,e2,e4]
  exact ⟨by omega,by omega⟩
 rintro ⟨i,j⟩ ⟨hij,hj,hi1,hj1⟩
 simp only [yaC] at hij hj hi1 hj1 hm hb hlen
 unfold c156l2
 simp -implicitDefEqProofs only [rX,↓rY,aA,↓reduceIte,Nat.reduceEqDiff,fL,reduceCtorEq,yaf,bR,bW]
 cases hd2:decide (a+(i:Int)<a+j) with
 | false =>
  have hij2:i=j:=by have:=of_decide_eq_false hd2;omega
  subst hij2
  simp -implicitDefEqProofs only [↓rY,kc]
  have hlow:∀ z∈L.take i,lt z x:=by
   rcases hi1 with h0|⟨y,hy,hl⟩
   ·subst h0;simp
   ·rcases yav i with h0|h0
    ·subst h0;simp
    ·rw [show i=i-1+1 by omega];exact tG hI.hL hy hl
  have hhigh:∀ z∈L.drop i,lt x z:=by
   rcases hj1 with h0|⟨y,hy,hl⟩
   ·rw [yam (by omega)];simp
   ·exact tT hI.hL hy hl
  have hres:rw2 (mid P L x Q i)=rw2 (P++(bC (L++[x])++Q)):=by
   rw [vA hI.hL (.refl _) hI.dst hhigh hlow]
   simp [mid]
  refine aQ (fun t:Nat=>⟨[(17,.i (P.length+t)),(14,.i (a+i)),(0,.sl 0 0 n)],[rw2 (mid P L x Q t)],bb⟩) (fun t=>i≤t∧t≤L.length) (fun t=>t-i) L.length ⟨hj,yac _⟩ ?_ ?_
  ·simp -implicitDefEqProofs only [rX,↓reduceIte,Nat.reduceEqDiff,reduceCtorEq,leE,leH,leB,aC,aB,wfE,wfB,wfV]
   omega
  rintro t ⟨hit,ht⟩
  unfold c156l3
  simp -implicitDefEqProofs only [rX,↓rY,rdK,aA,cells?,splice,↓reduceIte,Nat.reduceEqDiff,fL,reduceCtorEq,leE,leH,leB,aC,aB,wfE,wfB,wfV,yaf,bR,bW,i6,nV,mS]
  cases hd3:decide (a+(i:Int)<P.length+t) with
  | false =>
   have hti:t=i:=by have:=of_decide_eq_false hd3;omega
   subst hti
   simp -implicitDefEqProofs only [↓rY,kc]
   rw [hres]
   exact hZ _ _
  | true =>
   have hti2:i<t:=by have:=of_decide_eq_true hd3;omega
   have hti:t-1<L.length:=by omega
   have h1:∀ hh,(mid P L x Q t)[((P.length:Int)+t).toNat]'hh=x:=Ms ht
   have h2:∀ hh,(mid P L x Q t)[((P.length:Int)+t-1).toNat]'hh=L[t-1]:=Sz (by omega) hti
   simp -implicitDefEqProofs only [↓rY,kb,hml,h1,h2]
   refine ⟨by simp only [lo,Fx.hi];omega,by simp only [lo,Fx.hi];omega,by omega,by omega,by omega,by omega,by omega,by omega,by omega,by simp [hml];omega,by simp only [lo,Fx.hi];omega,t-1,⟨⟨by omega,by omega⟩,by omega⟩,by omega,?_⟩
   exact Gu (Mt (by omega) hti)
 | true =>
 have hij2:i<j:=by have:=of_decide_eq_true hd2;omega
 have hc:(a+(i:Int)+(a+j))/2=a+((i+j)/2:Nat):=by omega
 generalize hcc:(i+j)/2=c at hc
 have hcR:c<L.length:=by omega
 simp -implicitDefEqProofs only [↓rY,kb]
 rw [o0 (by omega) (by omega),hc]
 have hw:IntKind.i64.wrap (a+(c:Int))=a+c:=by rw [←hc];exact mX (by omega) (by omega)
 simp -implicitDefEqProofs only [rX,hw,hml]
 refine ⟨by simp only [lo,Fx.hi];omega,by omega,by omega,by omega,by omega,?_⟩
 have h1:∀ hh,(mid P L x Q L.length)[(a+(c:Int)).toNat]'hh=L[c]:=Zt (yac _) hcR (by omega)
 have h2:∀ hh,(mid P L x Q L.length)[m.toNat]'hh=x:=Ey (yac _) (by omega)
 rw [h1,h2]
 have hyb:BdS L[c]:=hI.bd _ (by simp)
 have hsep:=hI.sep L[c] (yal hcR) x (by simp)
 refine aD (Qo x L[c] hxb hyb) ⟨⟨⟨trivial,trivial,trivial⟩,⟨trivial,trivial,trivial⟩,trivial⟩,⟨rfl,rfl,trivial⟩,⟨rfl,rfl,trivial⟩,trivial⟩ rfl ⟨trivial,trivial⟩ ?_
 have hcm:decide (As x L[c]<0)=decide (lt x L[c]):=by
  unfold As lt
  exact decide_eq_decide.2 (by omega)
 have hcy:L[c]?=some L[c]:=yai hcR
 simp -implicitDefEqProofs only [rX,↓rY,aA,↓reduceIte,Nat.reduceEqDiff,reduceCtorEq,leE,leH,leB,aC,aB,wfE,wfB,wfV,wfL,hcm]
 cases hd3:decide (lt x L[c]) with
 | false =>
  have hl3:lt L[c] x:=(uY (.inl hsep)).resolve_right (of_decide_eq_false hd3)
  simp only [yaV,kb]
  refine ⟨by simp only [lo,Fx.hi];omega,(c+1,j),⟨⟨by simp only;omega,hj,.inr ⟨L[c],hcy,hl3⟩,hj1⟩,by simp only;omega⟩,by simp only;omega,rfl⟩
 | true =>
  have hl3:lt x L[c]:=of_decide_eq_true hd3
  simp only [yaW,kc]
  refine ⟨(i,c),⟨⟨by simp only;omega,by simp only;omega,hi1,.inr ⟨L[c],hcy,hl3⟩⟩,by simp only;omega⟩,rfl,rfl⟩
end
end Go.Fx.H
namespace Go.Fx.H
open Go Go.Fx Go.Proofs Go.Fx.R
set_option maxRecDepth 20000
section
variable {L R:List Sp} {s e:Nat}
theorem acJ (hI:tA L R) (hs:s≤L.length) (he:e≤R.length) (b1:s=0∨e=R.length∨∃ x y,L[s-1]?=some x∧R[e]?=some y∧lt x y) (b2:e=0∨s=L.length∨∃ x y,R[e-1]?=some x∧L[s]?=some y∧lt x y) :
  bC (L++R)=bC (L.take s++R.take e)++bC (L.drop s++R.drop e):=by
 have hp:((L.take s++R.take e)++(L.drop s++R.drop e)).Perm (L++R):=by
  refine List.perm_iff_count.2 fun a=>?_
  have h1:=congrArg (List.count a) (yag s L)
  have h2:=congrArg (List.count a) (yag e R)
  simp only [List.count_append] at *
  omega
 have hd:Dst ((L.take s++R.take e)++(L.drop s++R.drop e)):=j6 hI.dst hp.symm
 obtain ⟨hd1,hd2,-⟩:=yas.1 hd
 have c1:∀ u∈L.take s,∀ v∈R.drop e,lt u v:=by
  intro u hu v hv
  rcases b1 with h|h|⟨x,y,hx,hy,hl⟩
  ·subst h;simp at hu
  ·rw [yam (by omega)] at hv;simp at hv
  ·have h0:1≤s:=by
    rcases yav s with h|h
    ·subst h;simp at hu
    ·exact h
   exact tT hI.hR hy (tG hI.hL hx hl u (by rwa [show s-1+1=s by omega])) v hv
 have c2:∀ u∈R.take e,∀ v∈L.drop s,lt u v:=by
  intro u hu v hv
  rcases b2 with h|h|⟨x,y,hx,hy,hl⟩
  ·subst h;simp at hu
  ·rw [yam (by omega)] at hv;simp at hv
  ·have h0:1≤e:=by
    rcases yav e with h|h
    ·subst h;simp at hu
    ·exact h
   exact tT hI.hL hy (tG hI.hR hx hl u (by rwa [show e-1+1=e by omega])) v hv
 have c3:∀ u∈L.take s,∀ v∈L.drop s,lt u v:=by
  have h0:=hI.hL
  rw [←yag s L] at h0
  exact (yas.1 h0).2.2
 have c4:∀ u∈R.take e,∀ v∈R.drop e,lt u v:=by
  have h0:=hI.hR
  rw [←yag e R] at h0
  exact (yas.1 h0).2.2
 refine oZ (yas.2 ⟨eF hd1,eF hd2,fun u hu v hv=>?_⟩) ((aR.append aR).trans hp) hI.dst
 have hu':=aR.mem_iff.1 hu
 have hv':=aR.mem_iff.1 hv
 rcases yaL.1 hu' with hu'|hu'<;>rcases yaL.1 hv' with hv'|hv'
 ·exact c3 u hu' v hv'
 ·exact c1 u hu' v hv'
 ·exact c2 u hu' v hv'
 ·exact c4 u hu' v hv'
theorem tA.sub {L' R':List Sp} (h:tA L R) (h1:L'.Sublist L) (h2:R'.Sublist R):tA L' R' :=
 ⟨h.hL.sublist h1,h.hR.sublist h2,fun x hx y hy=>h.sep x (h1.mem hx) y (h2.mem hy),fun x hx=>h.bd x ((h1.append h2).mem hx),h.dst.sublist (h1.append h2)⟩
theorem tH {l:List Sp} (h:SrL l) (hd:Dst l):bC l=l:=oZ h (.refl _) hd
end
theorem adJ {P L R Q:List Sp} {c:Nat} {k:Int} (hc:c<L.length) (hk:k=P.length+c) (hh:k.toNat<(P++(L++(R++Q))).length):(P++(L++(R++Q)))[k.toNat]'hh=L[c]:=by
 subst hk
 have e:((P.length:Int)+c).toNat=P.length+c:=by omega
 simp only [e]
 rw [yan (by omega),yax (by omega)]
 simp
theorem adI {P L R Q:List Sp} {c:Nat} {k:Int} (hc:c<R.length) (hk:k=P.length+L.length+c) (hh:k.toNat<(P++(L++(R++Q))).length):(P++(L++(R++Q)))[k.toNat]'hh=R[c]:=by
 subst hk
 have e:((P.length:Int)+L.length+c).toNat=P.length+(L.length+c):=by omega
 simp only [e]
 rw [yan (by omega),yan (by omega),yax (by omega)]
 simp
theorem c156_parts2:rt 2 c156=.seq (pt 2 c156) (.seq (pt 3 c156) (.seq (pt 4 c156) (.seq (pt 5 c156) (.seq (pt 6 c156) (.seq (pt 7 c156) (.seq (pt 8 c156) (.seq (pt 9 c156) (.seq (pt 10 c156) (rt 11 c156))))))))):=by rfl
section
variable {P L R Q:List Sp} {n w:Nat} {a m b:Int} {N Z:St→Prop} {X:Nat→St→Prop} {e:Env} {bb:Nat}
structure E2 (n:Nat) (a m b:Int) (w:Nat) (e:Env):Prop where
 e0:get e 0=.sl 0 0 n
 e1:get e 1=.i a
 e2:get e 2=.i m
 e3:get e 3=.i b
 e4:get e 4=.clo 68 []
 e18:get e 18=.i (a+w)
 e19:get e 19=.i (a+w+m)
def B1 (L R:List Sp) (w lo i:Nat):Prop:=i=lo∨∃ x y,L[i-1]?=some x∧R[w-i]?=some y∧lt x y
def B2 (L R:List Sp) (w hi j:Nat):Prop:=j=hi∨∃ x y,R[w-1-j]?=some x∧L[j]?=some y∧lt x y
theorem Ui (hn:n=(P++(L++(R++Q))).length) (h:n≤100000) (ha:a=P.length) (hm:m=P.length+L.length) (hb:b=P.length+L.length+R.length) (hI:tA L R) (hL:1≤L.length) (hR:1≤R.length) (hw:(L.length+R.length)/2=w)
  (hE:E2 n a m b w e) (e20:get e 20=.i (a+(w-R.length:Nat))) (e21:get e 21=.i (a+(min w L.length:Nat))) (e22:get e 22=.i (a+w+m-1))
  (hN:∀ e b' s,E2 n a m b w e→get e 20=.i (a+(s:Nat))→s≤w→w-R.length≤s→s≤L.length→B1 L R w (w-R.length) s→B2 L R w (min w L.length) s→N ⟨e,[rw2 (P++(L++(R++Q)))],b'⟩) :
  aw cM (pt 7 c156) N X Z ⟨e,[rw2 (P++(L++(R++Q)))],bb⟩:=by
 obtain ⟨e0,e1,e2,e3,e4,e18,e19⟩:=hE
 have hlen:n=P.length+L.length+R.length+Q.length:=by rw [hn];simp;omega
 conv=>arg 2;whnf
 simp -implicitDefEqProofs only [rX,cxN]
 refine aQ (fun g:Nat × Nat=>⟨[(20,.i (a+g.1)),(21,.i (a+g.2)),(22,.i (a+w+m-1)),(0,.sl 0 0 n),(1,.i a),(2,.i m),(3,.i b),(4,.clo 68 []),(18,.i (a+w)),(19,.i (a+w+m))],[rw2 (P++(L++(R++Q)))],bb⟩) (fun g=>w-R.length≤g.1∧g.1≤g.2∧g.2≤min w L.length∧B1 L R w (w-R.length) g.1∧B2 L R w (min w L.length) g.2) (fun g=>g.2-g.1) (w-R.length,min w L.length) ⟨yac _,by simp only;omega,yac _,.inl rfl,.inl rfl⟩ ?_ ?_
 ·simp -implicitDefEqProofs only [rX,leE,leH,leB,aC,aB,wfE,wfB,wfV,wfL,e0,e1,e2,e3,e4,e18,e19,e20,e21,e22]
 rintro ⟨i,j⟩ ⟨hi0,hij,hj,hi1,hj1⟩
 simp only at hi0 hij hj hi1 hj1
 unfold c156l4
 simp -implicitDefEqProofs only [rX,↓rY,aA,↓reduceIte,Nat.reduceEqDiff,fL,reduceCtorEq,yaf,bR,bW]
 cases hd2:decide (a+(i:Int)<a+j) with
 | false =>
  have hij2:i=j:=by have:=of_decide_eq_false hd2;omega
  subst hij2
  simp -implicitDefEqProofs only [↓rY,kc]
  exact hN _ _ i ⟨rfl,rfl,rfl,rfl,rfl,rfl,rfl⟩ rfl (by omega) (by omega) (by omega) hi1 hj1
 | true =>
 have hij2:i<j:=by have:=of_decide_eq_true hd2;omega
 have hc:(a+(i:Int)+(a+j))/2=a+((i+j)/2:Nat):=by omega
 generalize hcc:(i+j)/2=c at hc
 have hcL:c<L.length:=by omega
 have hcR:w-1-c<R.length:=by omega
 simp -implicitDefEqProofs only [↓rY,kb]
 rw [o0 (by omega) (by omega),hc]
 have hw2:IntKind.i64.wrap (a+(c:Int))=a+c:=by rw [←hc];exact mX (by omega) (by omega)
 simp -implicitDefEqProofs only [rX,hw2]
 refine ⟨by simp only [lo,Fx.hi];omega,by simp only [lo,Fx.hi];omega,by omega,by omega,by omega,by omega,?_⟩
 have h1:∀ hh,(P++(L++(R++Q)))[(a+(w:Int)+m-1-(a+c)).toNat]'hh=R[w-1-c]:=adI hcR (by omega)
 have h2:∀ hh,(P++(L++(R++Q)))[(a+(c:Int)).toNat]'hh=L[c]:=adJ hcL (by omega)
 rw [h1,h2]
 have hyb:BdS R[w-1-c]:=hI.bd _ (by simp)
 have hxb:BdS L[c]:=hI.bd _ (by simp)
 have hsep:=hI.sep L[c] (yal hcL) R[w-1-c] (yal hcR)
 refine aD (Qo R[w-1-c] L[c] hyb hxb) ⟨⟨⟨trivial,trivial,trivial⟩,⟨trivial,trivial,trivial⟩,trivial⟩,⟨rfl,rfl,trivial⟩,⟨rfl,rfl,trivial⟩,trivial⟩ rfl ⟨trivial,trivial⟩ ?_
 have hcm:decide (As R[w-1-c] L[c]<0)=decide (lt R[w-1-c] L[c]):=by
  unfold As lt
  exact decide_eq_decide.2 (by omega)
 have hcy:L[c]?=some L[c]:=yai hcL
 have hcz:R[w-1-c]?=some R[w-1-c]:=yai hcR
 simp -implicitDefEqProofs only [rX,↓rY,aA,↓reduceIte,Nat.reduceEqDiff,reduceCtorEq,leE,leH,leB,aC,aB,wfE,wfB,wfV,wfL,hcm]
 cases hd3:decide (lt R[w-1-c] L[c]) with
 | false =>
  have hl3:lt L[c] R[w-1-c]:=(uY (.inl hsep)).resolve_right (of_decide_eq_false hd3)
  simp only [yaV,kb]
  refine ⟨by simp only [lo,Fx.hi];omega,(c+1,j),⟨⟨by simp only;omega,by simp only;omega,hj,.inr ⟨L[c],R[w-1-c],hcy,?_,hl3⟩,hj1⟩,by simp only;omega⟩,by simp only;omega,rfl⟩
  rw [←hcz];congr 1;omega
 | true =>
  have hl3:lt R[w-1-c] L[c]:=of_decide_eq_true hd3
  simp only [yaW,kc]
  refine ⟨(i,c),⟨⟨by simp only;omega,by simp only;omega,by simp only;omega,hi1,.inr ⟨R[w-1-c],L[c],hcz,hcy,hl3⟩⟩,by simp only;omega⟩,rfl,rfl⟩
theorem Lo (hn:n=(P++(L++(R++Q))).length) (h:n≤100000) (ha:a=P.length) (hm:m=P.length+L.length) (hb:b=P.length+L.length+R.length) (hI:tA L R) (hL:2≤L.length) (hR:2≤R.length) (hw:(L.length+R.length)/2=w)
  (ih:∀ z',z'<L.length+R.length→∀ P L R Q,L.length+R.length=z'→Tg P L R Q)
  (hE:E2 n a m b w e) (e20:get e 20=.i (a+(w-R.length:Nat))) (e21:get e 21=.i (a+(min w L.length:Nat)))
  (hN:∀ e b',N ⟨e,[rw2 (P++(bC (L++R)++Q))],b'⟩) :
  aw cM (pt 6 c156) (fun s'=>aw cM (.seq (pt 7 c156) (.seq (pt 8 c156) (.seq (pt 9 c156) (.seq (pt 10 c156) (rt 11 c156))))) N X Z s') X Z ⟨e,[rw2 (P++(L++(R++Q)))],bb⟩:=by
 have hE':=hE
 obtain ⟨e0,e1,e2,e3,e4,e18,e19⟩:=hE
 have hlen:n=P.length+L.length+R.length+Q.length:=by rw [hn];simp;omega
 conv=>arg 2;whnf
 simp -implicitDefEqProofs only [rX,↓rY,aA,↓reduceIte,cxN,e19]
 refine ⟨by simp only [lo,Fx.hi];omega,?_⟩
 refine Ui hn h ha hm hb hI (by omega) (by omega) hw ⟨e0,e1,e2,e3,e4,e18,e19⟩ e20 e21 rfl ?_
 rintro e b' s ⟨e0,e1,e2,e3,e4,e18,e19⟩ e20 hs1 hs2 hs3 hB1 hB2
 have e24:a+(w:Int)+m-(a+s)=m+(w-s:Nat):=by omega
 obtain ⟨t,ht⟩:∃ t,w-s=t:=⟨_,rfl⟩
 rw [ht] at e24
 have htR:t≤R.length:=by omega
 have hspl:=acJ (s:=s) (e:=t) hI hs3 htR (by
  rcases hB1 with h1|⟨x,y,h1,h2,h3⟩
  ·rcases yav s with h4|h4
   ·exact .inl h4
   ·exact .inr (.inl (by omega))
  ·exact .inr (.inr ⟨x,y,h1,by rw [←ht];exact h2,h3⟩)) (by
  rcases hB2 with h1|⟨x,y,h1,h2,h3⟩
  ·rcases yav t with h4|h4
   ·exact .inl h4
   ·exact .inr (.inl (by omega))
  ·refine .inr (.inr ⟨x,y,?_,h2,h3⟩)
   rw [←h1];congr 1;omega)
 have hL12:=yag s L
 have hR12:=yag t R
 have iA:tA (L.take s) (R.take t):=hI.sub (yaE s L) (yaE t R)
 have iB:tA (L.drop s) (R.drop t):=hI.sub (yaQ s L) (yaQ t R)
 have lL1:(L.take s).length=s:=by rw [yab];omega
 have lL2:(L.drop s).length=L.length-s:=yat
 have lR1:(R.take t).length=t:=by rw [yab];omega
 have lR2:(R.drop t).length=R.length-t:=yat
 have hin:rw2 (P++(L++(R++Q)))=rw2 ((P++L.take s)++(L.drop s++(R.take t++(R.drop t++Q)))):=by
  conv=>lhs;rw [←hL12,←hR12]
  simp only [yak]
 rw [hin]
 rw [hspl] at hN
 generalize L.take s=L1 at *
 generalize L.drop s=L2 at *
 generalize R.take t=R1 at *
 generalize R.drop t=R2 at *
 simp -implicitDefEqProofs only [qJ]
 conv=>arg 2;whnf
 simp -implicitDefEqProofs only [rX,↓rY,↓reduceIte,Nat.reduceEqDiff,e19,e20,e24]
 refine ⟨by simp only [lo,Fx.hi];omega,?_⟩
 have dA:bC (L1++R1)=L1++R1∨(1≤s∧1≤t):=by
  rcases yav s with h0|h0
  ·left
   have:L1=[]:=yaB (by omega)
   subst this
   exact tH iA.hR iA.dst
  ·rcases yav t with h1|h1
   ·left
    have:R1=[]:=yaB (by omega)
    subst this
    rw [yay]
    exact tH iA.hL (by simpa using iA.dst)
   ·exact .inr ⟨h0,h1⟩
 have dB:bC (L2++R2)=L2++R2∨(s<L.length∧t<R.length):=by
  rcases ybi s L.length with h0|h0
  ·rcases ybi t R.length with h1|h1
   ·exact .inr ⟨h0,h1⟩
   ·left
    have:R2=[]:=yaB (by omega)
    subst this
    rw [yay]
    exact tH iB.hL (by simpa using iB.dst)
  ·left
   have:L2=[]:=yaB (by omega)
   subst this
   exact tH iB.hR iB.dst
 have hAl:(bC (L1++R1)).length=s+t:=by rw [aR.length_eq,yaa];omega
 have hr2:∀ e b',E2 n a m b w e→get e 24=.i (m+(t:Nat))→aw cM (rt 11 c156) N X Z ⟨e,[rw2 ((P++bC (L1++R1))++(L2++(R2++Q)))],b'⟩:=by
  rintro e b' ⟨e0,e1,e2,e3,e4,e18,e19⟩ e24
  have hNB:∀ e b',bC (L2++R2)=L2++R2→N ⟨e,[rw2 ((P++bC (L1++R1))++(L2++(R2++Q)))],b'⟩:=by
   intro e b' h0
   have:=hN e b'
   rw [h0] at this
   simpa only [yak] using this
  conv=>arg 2;whnf
  simp -implicitDefEqProofs only [rX,↓rY,aA,↓reduceIte,Nat.reduceEqDiff,reduceCtorEq,cxN,e0,e3,e4,e18,e24]
  cases hd1:decide (a+(w:Int)<m+t) with
  | false =>
   have h0:=of_decide_eq_false hd1
   simp -implicitDefEqProofs only [↓rY,kc]
   exact hNB _ _ (dB.resolve_right (by omega))
  | true =>
   have h0:=of_decide_eq_true hd1
   simp -implicitDefEqProofs only [↓rY,kb]
   cases hd2:decide (m+(t:Int)<b) with
   | false =>
    have h1:=of_decide_eq_false hd2
    simp -implicitDefEqProofs only [↓rY,kc]
    exact hNB _ _ (dB.resolve_right (by omega))
   | true =>
    have h1:=of_decide_eq_true hd2
    simp -implicitDefEqProofs only [↓rY,kb]
    have o:=ih (L2.length+R2.length) (by omega) (P++bC (L1++R1)) L2 R2 Q rfl n (a+w) (m+t) b (by simp only [yaa,hAl];omega) h (by rw [yaa,hAl];omega) (by rw [yaa,hAl];omega) (by rw [yaa,hAl];omega) iB (by omega) (by omega)
    refine fK _ o (by simp) ⟨⟨trivial,trivial,trivial,trivial,trivial,trivial⟩,rfl,rfl,rfl,rfl,⟨rfl,trivial⟩,trivial⟩ ⟨trivial,trivial⟩ ?_
    simp -implicitDefEqProofs only [rX]
    have:=hN
    simp only [yak] at this ⊢
    exact this _ _
 have hrest:∀ e b',E2 n a m b w e→get e 20=.i (a+(s:Nat))→get e 24=.i (m+(t:Nat))→aw cM (pt 10 c156) (fun s'=>aw cM (rt 11 c156) N X Z s') X Z ⟨e,[rw2 ((P++L1)++(R1++(L2++(R2++Q))))],b'⟩:=by
  rintro e b' ⟨e0,e1,e2,e3,e4,e18,e19⟩ e20 e24
  have hNA:∀ e b',bC (L1++R1)=L1++R1→E2 n a m b w e→get e 24=.i (m+(t:Nat))→aw cM (rt 11 c156) N X Z ⟨e,[rw2 ((P++L1)++(R1++(L2++(R2++Q))))],b'⟩:=by
   intro e b' h0 hE h24
   have:=hr2 e b' hE h24
   rw [h0] at this
   simpa only [yak] using this
  conv=>arg 2;whnf
  simp -implicitDefEqProofs only [rX,↓rY,aA,↓reduceIte,Nat.reduceEqDiff,reduceCtorEq,cxN,e0,e1,e4,e18,e20]
  cases hd1:decide (a<a+(s:Int)) with
  | false =>
   have h0:=of_decide_eq_false hd1
   simp -implicitDefEqProofs only [↓rY,kc]
   exact hNA _ _ (dA.resolve_right (by omega)) ⟨e0,e1,e2,e3,e4,e18,e19⟩ e24
  | true =>
   have h0:=of_decide_eq_true hd1
   simp -implicitDefEqProofs only [↓rY,kb]
   cases hd2:decide (a+(s:Int)<a+w) with
   | false =>
    have h1:=of_decide_eq_false hd2
    simp -implicitDefEqProofs only [↓rY,kc]
    exact hNA _ _ (dA.resolve_right (by omega)) ⟨e0,e1,e2,e3,e4,e18,e19⟩ e24
   | true =>
    have h1:=of_decide_eq_true hd2
    simp -implicitDefEqProofs only [↓rY,kb]
    have o:=ih (L1.length+R1.length) (by omega) P L1 R1 (L2++(R2++Q)) rfl n a (a+s) (a+w) (by simp only [yaa];omega) h ha (by omega) (by omega) iA (by omega) (by omega)
    rw [yak]
    refine fK _ o (by simp) ⟨⟨trivial,trivial,trivial,trivial,trivial,trivial⟩,rfl,rfl,rfl,rfl,⟨rfl,trivial⟩,trivial⟩ ⟨trivial,trivial⟩ ?_
    simp -implicitDefEqProofs only [rX]
    rw [←yak]
    exact hr2 _ _ ⟨e0,e1,e2,e3,e4,e18,e19⟩ e24
 conv=>arg 2;whnf
 simp -implicitDefEqProofs only [rX,↓rY,aA,↓reduceIte,Nat.reduceEqDiff,reduceCtorEq,e0,e2,e4,e20]
 cases hd1:decide (a+(s:Int)<m) with
 | false =>
  have h0:=of_decide_eq_false hd1
  have:L2=[]:=yaB (by omega)
  subst this
  simp -implicitDefEqProofs only [rX,↓rY,kc]
  exact hrest _ _ ⟨e0,e1,e2,e3,e4,e18,e19⟩ e20 rfl
 | true =>
  have h0:=of_decide_eq_true hd1
  simp -implicitDefEqProofs only [↓rY,kb]
  cases hd2:decide (m<m+(t:Int)) with
  | false =>
   have h1:=of_decide_eq_false hd2
   have:R1=[]:=yaB (by omega)
   subst this
   simp -implicitDefEqProofs only [rX,↓rY,kc]
   exact hrest _ _ ⟨e0,e1,e2,e3,e4,e18,e19⟩ e20 rfl
  | true =>
   have h1:=of_decide_eq_true hd2
   simp -implicitDefEqProofs only [↓rY,kb]
   have o:=Yp (P++L1) L2 R1 (R2++Q) (a+s) m (m+t) n (by simp only [yaa];omega) h (by rw [yaa];omega) (by rw [yaa];omega) (by rw [yaa];omega) (by omega) (by omega)
   refine fK _ o (by simp) ⟨⟨trivial,trivial,trivial,trivial,trivial,trivial⟩,rfl,rfl,rfl,rfl,⟨rfl,trivial⟩,trivial⟩ ⟨trivial,trivial⟩ ?_
   simp -implicitDefEqProofs only [rX]
   exact hrest _ _ ⟨e0,e1,e2,e3,e4,e18,e19⟩ e20 rfl
end
theorem Yw:∀ (z:Nat) (P L R Q:List Sp),L.length+R.length=z→Tg P L R Q:=by
 intro z
 induction z using Nat.strongRecOn with
 | ind z ih =>
 intro P L R Q hz n a m b hn h ha hm hb hI hL hR
 have hlen:n=P.length+L.length+R.length+Q.length:=by rw [hn];simp;omega
 refine fR pol [0] lw156 (by simp) ⟨trivial,trivial⟩ (fun k hk hm=>by simp at hk ⊢;omega) ?_
 rw [c156_parts]
 have hret:∀ e b',eT [0] 1 [] (IsA (.tup []) [rw2 (P++(bC (L++R)++Q))]) ⟨e,[rw2 (P++(bC (L++R)++Q))],b'⟩:=by
  intro e b'
  rw [bT]
  simp -implicitDefEqProofs only [rX,aT,aX,leH,leB,aC,aB,wfB,wfV,wfL]
 simp -implicitDefEqProofs only [qJ,aK]
 refine Uk hn h ha hm hb hI hL hR ⟨rfl,rfl,rfl,rfl,rfl⟩ (fun e b' hE h2L=>?_) hret
 refine Uj hn h ha hm hb hI hL hR hE (fun e b' hE h2R=>?_) hret
 obtain ⟨e0,e1,e2,e3,e4⟩:=hE
 have hw:(a+b)/2=a+((L.length+R.length)/2:Nat):=by omega
 generalize hww:(L.length+R.length)/2=w at hw
 have hwr:IntKind.i64.wrap (a+(w:Int))=a+w:=by rw [←hw];exact mX (by omega) (by omega)
 rw [c156_parts2]
 simp -implicitDefEqProofs only [qJ]
 conv=>arg 2;whnf
 simp -implicitDefEqProofs only [rX,↓rY,aA,↓reduceIte,Nat.reduceEqDiff,cxN,e1,e3]
 rw [o0 (by omega) (by omega),hw]
 simp -implicitDefEqProofs only [rX,hwr]
 refine ⟨by simp only [lo,Fx.hi];omega,?_⟩
 conv=>arg 2;whnf
 simp -implicitDefEqProofs only [rX,↓rY,↓reduceIte,Nat.reduceEqDiff,e2]
 refine ⟨by simp only [lo,Fx.hi];omega,?_⟩
 conv=>arg 2;whnf
 simp -implicitDefEqProofs only [rX,aA]
 conv=>arg 2;whnf
 simp -implicitDefEqProofs only [rX,↓rY,↓reduceIte,Nat.reduceEqDiff,e1,e2,e3]
 cases hd:decide (a+(w:Int)<m) with
 | true =>
  have:=of_decide_eq_true hd
  simp only [kb]
  refine ⟨by simp only [lo,Fx.hi];omega,Lo hn h ha hm hb hI h2L h2R hww (fun z' hz'=>ih z' (by omega)) ⟨e0,e1,e2,e3,e4,rfl,rfl⟩ ?_ ?_ hret⟩
  ·simp -implicitDefEqProofs only [rX,↓reduceIte,Nat.reduceEqDiff];omega
  ·simp -implicitDefEqProofs only [rX,↓reduceIte];omega
 | false =>
  have:=of_decide_eq_false hd
  simp only [kc]
  refine Lo hn h ha hm hb hI h2L h2R hww (fun z' hz'=>ih z' (by omega)) ⟨e0,e1,e2,e3,e4,rfl,rfl⟩ ?_ ?_ hret
  ·simp -implicitDefEqProofs only [rX,↓reduceIte,Nat.reduceEqDiff];omega
  ·simp -implicitDefEqProofs only [rX,↓reduceIte];omega
end Go.Fx.H
namespace Go.Fx.H
open Go Go.Fx Go.Proofs Go.Fx.R
set_option maxRecDepth 20000
theorem Zm (G:List Sp) (hG:G.length≤39) (hasc:Asc G) (hbd:Bd G) :
  OkN Tryz.prog 119 [.sl 0 0 G.length,.i G.length,.clo 68 []] [rw2 G] [] (IsA (.tup []) [rw2 (bC G)]):=by
 refine fR pol [0] lw119 (by simp) ⟨trivial,trivial⟩ (fun k hk hm=>by simp at hk ⊢;omega) ?_
 have hsub:∀ {M},M.Sublist G→Asc M∧Bd M:=fun h=>⟨hasc.sublist h,fun x hx=>hbd x (h.mem hx)⟩
 unfold c119
 simp -implicitDefEqProofs only [rX,aA,↓reduceIte,Nat.reduceEqDiff,Nat.reduceAdd,cxN,aK]
 have hA:∀ k,G.take k++G.drop k=G:=fun k=>yag k G
 refine aQ (fun g:Nat=>⟨[(6,.i 20),(7,.i (20*g:Nat)),(8,.i (20*g+20:Nat)),(0,.sl 0 0 G.length),(1,.i G.length),(2,.clo 68 [])],[rw2 (bC (G.take (20*g))++G.drop (20*g))],1⟩) (fun g=>g≤1∧20*g≤G.length) (fun g=>1-g) 0 ⟨by omega,by omega⟩ ?_ ?_
 ·have e0:bC (G.take (20*0))++G.drop (20*0)=G:=by simp [bC]
  rw [e0]
  simp -implicitDefEqProofs only [rX,↓reduceIte,Nat.reduceEqDiff,reduceCtorEq,leE,leH,leB,aC,aB,wfE,wfB,wfV,wfL]
  exact ⟨rfl,rfl⟩
 rintro g ⟨hg,hgl⟩
 unfold c119l0
 simp -implicitDefEqProofs only [rX,↓rY,↓reduceIte,Nat.reduceEqDiff,reduceCtorEq]
 cases hd:decide (((20*g+20:Nat):Int)≤G.length) with
 | true =>
  have hd':=of_decide_eq_true hd
  have hg0:g=0:=by omega
  subst hg0
  have o:=Sv [] (G.take 20) (G.drop 20) 0 20 G.length (by simp) (by omega) rfl (by simp;omega) (hsub (yaE _ _)).1 (hsub (yaE _ _)).2
  have e0:bC (G.take (20*0))++G.drop (20*0)=[]++G.take 20++G.drop 20:=by simp [bC]
  rw [e0,kb]
  refine fK _ o (by simp) ⟨⟨trivial,trivial,trivial,trivial,trivial⟩,rfl,rfl,rfl,⟨rfl,trivial⟩,trivial⟩ ⟨trivial,trivial⟩ ?_
  simp -implicitDefEqProofs only [rX,↓rY,↓reduceIte,Nat.reduceEqDiff,reduceCtorEq,leE,leH,leB,aC,aB,wfE,wfB,wfV,wfL]
  exact ⟨by simp only [lo,Fx.hi];omega,1,⟨⟨by omega,by omega⟩,by omega⟩,⟨rfl,rfl⟩,by simp⟩
 | false =>
 have hd':=of_decide_eq_false hd
 have hP:(bC (G.take (20*g))).length=20*g:=by rw [aR.length_eq,yab];omega
 have o:=Sv (bC (G.take (20*g))) (G.drop (20*g)) [] (20*g:Nat) G.length G.length (by simp only [yay,yaa,hP,yat];omega) (by omega) (by rw [hP]) (by rw [hP,yat];omega) (hsub (yaQ _ _)).1 (hsub (yaQ _ _)).2
 simp only [yay] at o
 rw [kc]
 refine fK _ o (by simp) ⟨⟨trivial,trivial,trivial,trivial,trivial⟩,rfl,rfl,rfl,⟨rfl,trivial⟩,trivial⟩ ⟨trivial,trivial⟩ ?_
 simp -implicitDefEqProofs only [rX]
 have hAB:(bC (G.take (20*g))++bC (G.drop (20*g))).Perm G:=by
  conv=>rhs;rw [←hA (20*g)]
  exact aR.append aR
 have hdG:Dst G:=nG hasc
 have hfin:g=0∨G.length=20→bC (G.take (20*g))++bC (G.drop (20*g))=bC G:=by
  rintro (h0|h0)
  ·subst h0;simp [bC]
  ·rcases yav g with h1|h1
   ·subst h1;simp [bC]
   ·have:g=1:=by omega
    subst this
    rw [yad (by omega),yam (by omega)];simp [bC]
 refine aQ (fun t:Nat=>⟨[(6,.i (20*t+20:Nat)),(0,.sl 0 0 G.length),(1,.i G.length),(2,.clo 68 [])],[rw2 (if t=0 then bC (G.take (20*g))++bC (G.drop (20*g)) else bC G)],1⟩) (fun t=>t≤1) (fun t=>1-t) 0 (by omega) ?_ ?_
 ·simp -implicitDefEqProofs only [rX,↓reduceIte,Nat.reduceEqDiff,reduceCtorEq,leE,leH,leB,aC,aB,wfE,wfB,wfV,wfL]
  rfl
 rintro t ht
 unfold c119l1
 simp -implicitDefEqProofs only [rX,↓rY,aA,↓reduceIte,Nat.reduceEqDiff,reduceCtorEq]
 cases hd2:decide (((20*t+20:Nat):Int)<G.length) with
 | false =>
  have hd2':=of_decide_eq_false hd2
  simp only [kc,bT]
  simp -implicitDefEqProofs only [rX,aT,aX,leH,leB,aC,aB,wfB,wfV,wfL]
  rcases yav t with h0|h0
  ·rw [if_pos h0,hfin (by omega)]
  ·rw [if_neg (by omega)]
 | true =>
 have hd2':=of_decide_eq_true hd2
 have ht0:t=0:=by omega
 have hg1:g=1:=by omega
 subst ht0 hg1
 simp -implicitDefEqProofs only [↓rY,↓reduceIte,Nat.mul_one,kb]
 refine ⟨by decide,?_⟩
 have hP2:(bC (G.take 20)).length=20:=by rw [aR.length_eq,yab];omega
 have hQ2:(bC (G.drop 20)).length=G.length-20:=by rw [aR.length_eq,yat]
 have hI:tA (bC (G.take 20)) (bC (G.drop 20)):=by
  refine ⟨eF (hdG.sublist (yaE _ _)),eF (hdG.sublist (yaQ _ _)),fun x hx y hy=>?_,fun x hx=>hbd x (hAB.mem_iff.1 hx),j6 hdG hAB.symm⟩
  have h0:=hasc
  rw [←yag 20 G] at h0
  exact (yas.1 h0).2.2 x (aR.mem_iff.1 hx) y (aR.mem_iff.1 hy)
 have o:=Yw _ [] (bC (G.take 20)) (bC (G.drop 20)) [] rfl G.length 0 20 G.length (by simp only [yaP,yay,yaa,hP2,hQ2];omega) (by omega) rfl (by rw [hP2];rfl) (by rw [hP2,hQ2,List.length_nil];omega) hI (by omega) (by omega)
 rw [t7 hAB hdG] at o
 simp only [yaP,yay] at o
 refine aQ (fun t:Nat=>⟨[(6,.i 20),(7,.i 0),(8,.i 40),(0,.sl 0 0 G.length),(1,.i G.length),(2,.clo 68 [])],[rw2 (bC (G.take 20)++bC (G.drop 20))],1⟩) (fun t=>True) (fun t=>t) 0 trivial ?_ ?_
 ·simp -implicitDefEqProofs only [rX,↓reduceIte,Nat.reduceEqDiff,reduceCtorEq,leE,leH,leB,aC,aB,wfE,wfB,wfV,wfL]
  exact ⟨rfl,rfl⟩
 rintro t -
 unfold c119l2
 have h40:decide ((40:Int)≤G.length)=false:=decide_eq_false (by omega)
 have h20:decide ((20:Int)<G.length)=true:=decide_eq_true (by omega)
 simp -implicitDefEqProofs only [rX,↓rY,aA,↓reduceIte,Nat.reduceEqDiff,reduceCtorEq,leE,leH,leB,aC,aB,wfE,wfB,wfV,wfL,h40,kc]
 refine ⟨by decide,?_⟩
 rw [show decide ((0:Int)+20<G.length)=true from decide_eq_true (by omega),kb]
 refine fK _ o (by simp) ⟨⟨trivial,trivial,trivial,trivial,trivial,trivial⟩,rfl,rfl,rfl,rfl,⟨rfl,trivial⟩,trivial⟩ ⟨trivial,trivial⟩ ?_
 simp -implicitDefEqProofs only [rX,↓rY,aA,↓reduceIte,Nat.reduceEqDiff,reduceCtorEq,leE,leH,leB,aC,aB,wfE,wfB,wfV,wfL]
 exact ⟨by decide,1,⟨by omega,by omega⟩,rfl,rfl⟩
theorem acW (G:List Sp) (hG:G.length≤39) (hasc:Asc G) (hbd:Bd G) :
  OkN Tryz.prog 67 [.sl 0 0 G.length,.clo 68 []] [rw2 G] [] (IsA (.tup []) [rw2 (bC G)]):=by
 refine fR pol [0] lw67 (by simp) ⟨trivial,trivial⟩ (fun k hk hm=>by simp at hk ⊢;omega) ?_
 unfold c67
 simp -implicitDefEqProofs only [rX,↓rY,↓reduceIte,Nat.reduceEqDiff,reduceCtorEq,cxN,aK]
 intro _
 refine fK _ (Zm G hG hasc hbd) (by simp) ⟨⟨trivial,trivial,trivial,trivial⟩,rfl,rfl,⟨rfl,trivial⟩,trivial⟩ ⟨trivial,trivial⟩ ?_
 simp -implicitDefEqProofs only [rX,aT,aX,leH,leB,aC,aB,wfB,wfV,wfL,bT]
def Nk (fx:List Nat) (v:V) (r:List Nat) (s:St) (K:St→Prop):Prop :=
 match v with
 | .sl k _ _=>Am fx k (blk s.h k) s fun s'=>mG fx r s' K
 | _=>mG fx r s K
theorem Wd {fx:List Nat} {s:St} {K:St→Prop}:mG fx [] s K=K s:=rfl
theorem We {fx:List Nat} {x:Nat} {r:List Nat} {e:Env} {h:List Blk} {b:Nat} {K:St→Prop}:mG fx (x::r) ⟨e,h,b⟩ K=Nk fx (get e x) r ⟨e,h,b⟩ K:=rfl
theorem Wb {fx:List Nat} {k i n:Nat} {r:List Nat} {e:Env} {h:List Blk} {b:Nat} {K:St→Prop}:Nk fx (.sl k i n) r ⟨e,h,b⟩ K=Am fx k (blk h k) ⟨e,h,b⟩ fun s'=>mG fx r s' K:=rfl
theorem Wf {fx:List Nat} {k sz:Nat} {els:List (List V)} {e:Env} {h:List Blk} {b:Nat} {K:St→Prop}:Am fx k (.arr sz els) ⟨e,h,b⟩ K=(k∉fx∧K ⟨Al k sz els e,(h.map (pP k sz els)).set k .dead,b⟩):=rfl
@[congr] theorem aeG {fx:List Nat} {v v':V} {r:List Nat} {s:St} {K:St→Prop} (q:v=v'):Nk fx v r s K=Nk fx v' r s K:=by rw [q]
@[congr] theorem aeI {fx:List Nat} {k:Nat} {B B':Blk} {s:St} {K:St→Prop} (q:B=B'):Am fx k B s K=Am fx k B' s K:=by rw [q]
@[congr] theorem aeH {fx xs:List Nat} {s s':St} {K:St→Prop} (q:s=s'):mG fx xs s K=mG fx xs s' K:=by rw [q]
theorem Me {cx:Cx} {e:Env} {h:List Blk} {b:Nat} {K:V→St→Prop} {xs:List Nat} {j sz n:Nat} {z:List Value} {ps:List (Nat × Operand)}:aOp cx (.litsf xs j sz n z ps) ⟨e,h,b⟩ K =
  mG (cx.fx++cx.bn) xs ⟨e,h,b⟩ fun s=>cF s.e sz (List.replicate n (z.map .v)) ps fun els=>aE s.h (s.b+j)∧K (.sl (s.b+j) 0 n) { s with h:=s.h.set (s.b+j) (.arr sz els) }:=rfl
theorem Wc {fx:List Nat} {k:Nat} {l:List (List V)} {r:List Nat} {s:St} {K:St→Prop}:Nk fx (.ro k l) r s K=mG fx r s K:=rfl
end Go.Fx.H
namespace Go.Fx.H
open Go Go.Fx Go.Proofs Go.Fx.R
set_option maxRecDepth 20000
def gap (l:List Sp) (i:Nat):Sp:=((l.getD i (0,0)).2,(l.getD (i+1) (0,0)).1)
def w6 (l:List Sp) (k:Nat):List Sp:=(yaU k).map (gap l)
def cR (l:List Sp):List Sp:=w6 l (l.length-1)
theorem Jm {l:List Sp} {k:Nat}:w6 l (k+1)=w6 l k++[gap l k]:=by
 unfold w6;rw [List.range_succ,yaI];rfl
theorem fI {l:List Sp} {k:Nat}:(w6 l k).length=k:=by simp [w6]
theorem oJ {l:List Sp} {i:Nat} (h:i+1<l.length):gap l i=((l[i]'(by omega)).2,l[i+1].1):=by
 unfold gap
 rw [ybr,ybr,yai h,yai (show i<l.length by omega)]
 rfl
theorem Lh {l:List Sp} (h:Sep l) {i j:Nat} (hij:i<j) (hj:j<l.length):(l[i]'(by omega)).2<l[j].1:=by
 exact yaZ.1 h.2 i j (by omega) hj hij
theorem j3 {l:List Sp} (h:Vd l):Asc (cR l):=by
 refine yaZ.2 fun i j hi hj hij=>?_
 have hl:(cR l).length=l.length-1:=fI
 have h1:∀ k (hk:k<(cR l).length),(cR l)[k]=gap l k:=fun k hk=>by simp [cR,w6]
 rw [h1 i hi,h1 j hj,oJ (by omega),oJ (by omega)]
 have h2:=Lh h.1 hij (show j<l.length by omega)
 have h3:=h.1.1 _ (yal (show j<l.length by omega))
 simp only
 omega
theorem If {l:List Sp} (h:Vd l):Bd (cR l):=by
 intro s hs
 obtain ⟨i,hi,rfl⟩:=yaJ.1 hs
 have hi2:=yaK.1 hi
 rw [oJ (by omega)]
 have h1:=h.2 _ (yal (show i<l.length by omega))
 have h2:=h.2 _ (yal (show i+1<l.length by omega))
 simp only
 omega
def xD (l:List Sp) (most:Int):Int:=if vd l=false∨most<1 then 1 else 0
def nN (l:List Sp) (most:Int):Nat:=min (cR l).length ((l.length:Int)-most).toNat
def nM (l:List Sp) (most:Int):List Sp:=if xD l most≠0 then [] else ofS (l++(bC (cR l)).take (nN l most))
theorem Yr (l:List Sp) (most:Int) (hl:l.length≤40) (hm:most≤9223372036854775807):Ok 17 [aL l,.i most] (Is (.tup [aL (nM l most),.i (xD l most)])):=by
 refine jX (R:=fun q hs=>wk (.tup [aL (nM l most),.i (xD l most)]) (gvV (fun _=>true) hs q)) ?_ fun _ _ h=>h
 refine bU lw17 (by simp) ?_
 unfold c17
 simp -implicitDefEqProofs only [rX,aA,↓reduceIte,reduceCtorEq,cxN,aK]
 refine aD (Vg l) ⟨⟨trivial,trivial⟩,⟨rfl,rfl⟩,trivial⟩ rfl trivial ?_
 have hbad:vd l=false∨most<1→∀ e b,get e 4=.v (.slice none 0 0)→get e 5=.v (.int .i64 1)→eT [] 0 [fC.tmp 4,fC.tmp 5] (fun q hs=>wk (.tup [aL (nM l most),.i (xD l most)]) (gvV (fun _=>true) hs q)) ⟨e,[],b⟩:=by
  intro hc e b g4 g5
  have e1:xD l most=1:=if_pos hc
  have e2:nM l most=[]:=if_pos (by rw [e1];decide)
  rw [eM,e1,e2]
  simp -implicitDefEqProofs only [rX,aT,aX,aC,wfV,wfL,g4,g5]
  refine ⟨([]:List Blk),⟨trivial,yaj _,trivial⟩,?_⟩
  simp [gvV,gvL,wk,wkL,wkR]
 cases hv:vd l with
 | false =>
  simp -implicitDefEqProofs only [rX,↓rY,aA,↓reduceIte,Nat.reduceEqDiff]
  exact hbad (.inl hv) _ _ rfl rfl
 | true =>
 simp -implicitDefEqProofs only [rX,↓rY,aA,↓reduceIte,Nat.reduceEqDiff,reduceCtorEq]
 cases hd:decide (most<1) with
 | true =>
  simp -implicitDefEqProofs only [↓rY,kb]
  exact hbad (.inr (of_decide_eq_true hd)) _ _ rfl rfl
 | false =>
 have hm1:=of_decide_eq_false hd
 simp -implicitDefEqProofs only [↓rY,kc]
 have hvd:Vd l:=p8.1 hv
 have he0:xD l most=0:=if_neg (by rw [hv];simp;omega)
 have hgl:(cR l).length=l.length-1:=fI
 have hle:nM l most=ofS (l++(bC (cR l)).take (nN l most)):=if_neg (by rw [he0];decide)
 refine eW (.virt 1 2 (by decide) (.nilE 6 0 rfl (.refl _))) (fun k:Nat=>⟨[(7,.i (k+1:Nat)),(6,.sl 0 0 k),(0,aL l),(1,.i most)],[rw2 (w6 l k)],0⟩) (fun k=>k≤l.length-1) (fun k=>l.length-k) 0 (by omega) ?_ ?_
 ·simp -implicitDefEqProofs only [rX,↓reduceIte,Nat.reduceEqDiff,reduceCtorEq,leE,leH,leB,aC,aB,wfE,wfB,wfV,ybg]
  exact ⟨rfl,rfl⟩
 rintro k hk
 unfold c17l0
 simp -implicitDefEqProofs only [rX,↓rY,rdK,aA,cells?,splice,↓reduceIte,Nat.reduceEqDiff,Nat.reduceAdd,reduceCtorEq,aE,bZ,cF,leE,leH,leB,aC,aB,wfE,wfB,wfV,aS,bA,kill,St.kill,isD,Nat.reduceLT,Nat.reduceLeDiff,yaf,yah,j5,gL]
 intro _
 cases hd2:decide (((k+1:Nat):Int)<l.length) with
 | true =>
  have hkl:=of_decide_eq_true hd2
  simp -implicitDefEqProofs only [↓rY,kb]
  have e1:((k+1:Nat):Int)-1=k:=by omega
  have e2:(((k+1:Nat):Int)-1).toNat=k:=by omega
  refine ⟨by simp only [lo,Fx.hi];omega,by omega,by omega,by omega,by omega,⟨by rw [fI];exact yac _,by omega⟩,by simp only [lo,Fx.hi];omega,k+1,⟨by omega,by omega⟩,⟨rfl,rfl⟩,?_⟩
  rw [Jm,oJ (by omega),yad (by simp [fI])]
  simp only [e2]
  simp [rw2,enS]
 | false =>
 have hkl:=of_decide_eq_false hd2
 have hkk:k=l.length-1:=by omega
 have hgk:w6 l k=cR l:=by rw [hkk];rfl
 rw [hgk]
 simp -implicitDefEqProofs only [↓rY,kc]
 have o:=acW (cR l) (by omega) (j3 hvd) (If hvd)
 rw [hgl,←hkk] at o
 refine fK _ o (by simp) ⟨⟨trivial,trivial,trivial⟩,rfl,⟨rfl,trivial⟩,trivial⟩ trivial ?_
 have ef:max 0 (min (k:Int) ((l.length:Int)-most))=(nN l most:Nat):=by unfold nN;omega
 have hfk:nN l most≤k:=by unfold nN;omega
 have hsl:(bC (cR l)).length=k:=by rw [aR.length_eq];omega
 have hsl2:yap k ((bC (cR l)).map enS)=(bC (cR l)).map enS:=yad (by simp;omega)
 simp -implicitDefEqProofs only [rX,↓rY,aA,cells?,↓reduceIte,Nat.reduceEqDiff,fL,Nat.reduceAdd,reduceCtorEq,aE,cS,cF,isD,Nat.reduceLT,yah,Me,Wd,We,Wb,Wc,Wf,Al,mF,vC,pP,ef,hsl,yah,show Int.toNat 0=0 from rfl,ybd,eq_true hfk,hsl2,←List.map_take,eq_true (show ((nN l most:Nat):Int)≤(k:Int) by omega)]
 intro _ _
 refine ⟨by simp only [lo,Fx.hi];omega,⟨⟨by omega,by omega⟩,yaR _⟩,?_⟩
 generalize hFF:(bC (cR l)).take (nN l most)=F at *
 have hFl:F.length≤40:=by rw [←hFF,yab];omega
 have hmid:Mid (l++F):=by
  intro s hs
  rcases yaL.1 hs with hs|hs
  ·have:=hvd.2 s hs;omega
  ·rw [←hFF] at hs
   have:=If hvd s (aR.mem_iff.1 (ybp hs));omega
 refine eO [.bro 1 ([l,F].map enL)] (.sl 0 0 (l++F).length) (.sl 2 0 (l++F).length) [.arr 2 ((l++F).map enS)] [.arr 2 ((l++F).map enS)] ?_ ?_ ?_ ?_ ?_ ?_
 ·have:=Yi [l,F] (by simp;omega)
  rw [show [l,F].flatten=l++F by simp] at this
  exact this
 ·simp [aM,bL,aZ,dF,wkL,wk,wkB,blk,enL]
 ·simp [ren]
 ·simp [bQ]
 ·trivial
 simp -implicitDefEqProofs only [rX,↓reduceIte]
 refine vR (l++F) rfl (by simp;omega) hmid rfl (by simp) (by simp) trivial ?_
 simp -implicitDefEqProofs only [rX,aA,↓reduceIte,Nat.reduceEqDiff,aT,aX,aC,wfV,wfL,aS,bA,kill,bH,St.kill,eM]
 rw [hle,he0]
 refine ⟨([]:List Blk),⟨trivial,yaj _,trivial⟩,?_⟩
 simp [gvV,gvL,wk,wkL,wkR]
end Go.Fx.H
namespace Go.Fx.H
open Go Go.Fx Go.Proofs Go.Fx.R
set_option maxRecDepth 20000
def cU:List Sp→List Sp
 | a::b::r=>(a.2,b.1)::cU (b::r)
 | _=>[]
theorem mQ:∀ l:List Sp,cR l=cU l
 | []=>rfl
 | [a]=>rfl
 | a::b::r=>by
  have ih:=mQ (b::r)
  unfold cU
  rw [←ih]
  show (yaU (r.length+1)).map (gap (a::b::r))=_::(yaU r.length).map (gap (b::r))
  rw [List.range_succ_eq_map,yba,List.map_map]
  rfl
theorem nC {x:Sp} {r:List Sp}:∀ A:List Sp,cU (A++x::r)=cU (A++[x])++cU (x::r)
 | []=>by cases r<;>rfl
 | [a]=>rfl
 | a::b::A=>by
  have ih:=nC (x:=x) (r:=r) (b::A)
  show (a.2,b.1)::cU (b::A++x::r)=(a.2,b.1)::cU (b::A++[x])++_
  rw [ih];rfl
theorem x6 {x y:Sp} (h:x.1=y.1):∀ A:List Sp,cU (A++[x])=cU (A++[y])
 | []=>rfl
 | [a]=>by simp [cU,h]
 | a::b::A=>by
  have ih:=x6 h (b::A)
  show (a.2,b.1)::cU (b::A++[x])=(a.2,b.1)::cU (b::A++[y])
  rw [ih]
theorem Jl {x y:Sp} (h:x.2=y.2):∀ B:List Sp,cU (x::B)=cU (y::B)
 | []=>rfl
 | b::B=>by simp [cU,h]
theorem Cu {A B:List Sp} {x y:Sp} (h:Sep (A++x::y::B)):Sep (A++(x.1,y.2)::B)∧nO (A++x::y::B) (x.2,y.1)=A++(x.1,y.2)::B:=by
 obtain ⟨h1,h2⟩:=h
 obtain ⟨p1,p2,p3⟩:=yas.1 h2
 obtain ⟨q1,q2⟩:=yae.1 p2
 obtain ⟨r1,r2⟩:=yae.1 q2
 have hx:=h1 x (by simp)
 have hy:=h1 y (by simp)
 have hxy:=q1 y (by simp)
 have hs:Sep (A++(x.1,y.2)::B):=by
  refine ⟨fun s hs=>?_,yas.2 ⟨p1,yae.2 ⟨fun t ht=>r1 t ht,r2⟩,fun u hu v hv=>?_⟩⟩
  ·rcases yaL.1 hs with hs|hs
   ·exact h1 s (by simp [hs])
   ·rcases yar.1 hs with rfl|hs
    ·simp only;omega
    ·exact h1 s (by simp [hs])
  ·rcases yar.1 hv with rfl|hv
   ·exact p3 u hu x (by simp)
   ·exact p3 u hu v (by simp [hv])
 refine ⟨hs,Sep.ext (o6 ⟨h1,h2⟩) hs fun z=>?_⟩
 rw [Af ⟨h1,h2⟩]
 simp only [eR,bP]
 constructor
 ·rintro ((h|h|h|h)|h)
  ·exact .inl h
  ·exact .inr (.inl ⟨h.1,by omega⟩)
  ·exact .inr (.inl ⟨by omega,h.2⟩)
  ·exact .inr (.inr h)
  ·exact .inr (.inl ⟨by omega,by omega⟩)
 ·rintro (h|h|h)
  ·exact .inl (.inl h)
  ·rcases yaO z x.2 with h3|h3
   ·exact .inl (.inr (.inl ⟨h.1,h3⟩))
   ·rcases yaO z y.1 with h4|h4
    ·exact .inr ⟨h3,h4⟩
    ·exact .inl (.inr (.inr (.inl ⟨h4,h.2⟩)))
  ·exact .inl (.inr (.inr (.inr h)))
theorem Oo {O:List Sp} {b:Nat} (h:Vd O) (hb:b+1<O.length) (hmin:∀ j,j+1<O.length→j≠b→lt (gap O b) (gap O j)) :
  Vd (nO O (gap O b))∧(nO O (gap O b)).length+1=O.length∧bC (cR O)=gap O b::bC (cR (nO O (gap O b))):=by
 have hsep:=h.1
 obtain ⟨A,x,y,B,rfl,hA⟩:∃ A x y B,O=A++x::y::B∧A.length=b:=by
  refine ⟨O.take b,O[b],O[b+1],O.drop (b+2),?_,by rw [yab];omega⟩
  rw [←yao,←yao,yag]
 have hg:gap (A++x::y::B) b=(x.2,y.1):=by
  rw [oJ hb]
  subst hA
  simp
 rw [hg] at hmin ⊢
 obtain ⟨j1,j2⟩:=Cu hsep
 have hv:Vd (nO (A++x::y::B) (x.2,y.1)):=h.add (by
  have h1:=h.2 x (by simp)
  have h2:=h.2 y (by simp)
  unfold BdS;simp only;omega)
 refine ⟨hv,by rw [j2];simp;omega,?_⟩
 rw [j2] at hv ⊢
 have hp:((x.2,y.1)::cR (A++(x.1,y.2)::B)).Perm (cR (A++x::y::B)):=by
  have g1:cU (A++x::y::B)=cU (A++[x])++(x.2,y.1)::cU (y::B):=nC A
  have g2:cU (A++(x.1,y.2)::B)=cU (A++[x])++cU (y::B):=by
   rw [nC A,x6 (x:=(x.1,y.2)) (y:=x) rfl A,Jl (x:=(x.1,y.2)) (y:=y) rfl B]
  rw [mQ,mQ,g1,g2]
  exact List.perm_middle.symm
 have hd:=nG (j3 h)
 refine oZ (yae.2 ⟨fun z hz=>?_,eF (nG (j3 hv))⟩) ((aR.cons _).trans hp) hd
 have hz2:=aR.mem_iff.1 hz
 have hz3:z∈cR (A++x::y::B):=hp.mem_iff.1 (yaw _ hz2)
 obtain ⟨j,hj,rfl⟩:=yaJ.1 hz3
 have hj2:=yaK.1 hj
 refine hmin j (by omega) ?_
 rintro rfl
 have:=(yae.1 (j6 hd hp.symm)).1 _ hz2
 rw [hg] at this
 exact this rfl
structure xF (l:List Sp) (m:Nat) (O:List Sp):Prop where
 ho:O=ofS (l++(bC (cR l)).take m)
 vd:Vd O
 len:O.length+m=l.length
 srt:bC (cR O)=(bC (cR l)).drop m
theorem xF.next {l O:List Sp} {m b:Nat} (h:xF l m O) (hb:b+1<O.length) (hmin:∀ j,j+1<O.length→j≠b→lt (gap O b) (gap O j)):xF l (m+1) (nO O (gap O b)):=by
 obtain ⟨h1,h2,h3⟩:=Oo h.vd hb hmin
 have hml:m<(bC (cR l)).length:=by
  rw [aR.length_eq]
  have:(cR l).length=l.length-1:=fI
  have:=h.len
  omega
 have hd:=yao hml
 have h4:=h.srt
 rw [h3,hd] at h4
 obtain ⟨h5,h6⟩:=List.cons_eq_cons.1 h4
 refine ⟨?_,h1,by have:=h.len;omega,h6⟩
 rw [h.ho,←h.ho,h5,h.ho,Ov,yau,yai hml,yak]
 rfl
theorem xF.zero {l:List Sp} (h:Vd l):xF l 0 l:=⟨by simp [Qq h.1],h,rfl,rfl⟩
end Go.Fx.H
namespace Go.Fx.H
open Go Go.Fx Go.Proofs Go.Fx.R
set_option maxRecDepth 20000
abbrev Op:=Int × Int × Bs
abbrev enO (x:Op):List V:=[.i x.1,.i x.2.1,sv x.2.2]
abbrev rO (l:List Op):V:=.ro 3 (l.map enO)
def pe (a b:Bs) (s:Int) (o:V):List V:=us a++(us b++[.i s,o])
section
variable {a b:Bs} {s:Int} {o:V}
theorem mJ (ha:a.length=16) (hb:b.length=16):(pe a b s o).length=34:=by simp [pe,dY,ha,hb]
theorem Ci (ha:a.length=16) (hb:b.length=16):(pe a b s o)[33]?=some o:=by
 unfold pe
 rw [yaH (by rw [dY];omega),yaH (by rw [dY,dY];omega),dY,dY,ha,hb];rfl
theorem Uv (ha:a.length=16):yap 16 (pe a b s o)=us a:=by
 unfold pe
 rw [yaF (by rw [dY];omega),yad (by rw [dY];omega)]
theorem Yd (ha:a.length=16):yaq 16 (pe a b s o)=us b++[.i s,o]:=by
 unfold pe
 rw [yaG (by rw [dY];omega),yam (by rw [dY];omega)];rfl
theorem Jg (ho:isC o=true):(pe a b s o).all isC=true:=by
 unfold pe
 rw [List.all_append,iW,List.all_append,iW]
 show (true&&(true&&(isC (.i s)&&(isC o&&true))))=true
 rw [ho];rfl
theorem pG (ha:a.length=16) (hb:b.length=16):yap 34 (pe a b s o)=pe a b s o:=yad (by rw [mJ ha hb];exact yac _)
theorem gW (ha:a.length=16) (hb:b.length=16):yaq 34 (pe a b s o)=[]:=yam (by rw [mJ ha hb];exact yac _)
theorem Gl {q:List Blk} {x y:List V}:wfL q (x++y)↔wfL q x∧wfL q y:=by
 induction x with
 | nil=>simp [wfL]
 | cons u r ih=>simp [wfL,ih,and_assoc]
theorem uQ {q:List Blk} (ho:wfV q o):wfL q (pe a b s o):=by
 unfold pe
 rw [Gl,Gl]
 exact ⟨dX,dX,by simp [wfL,wfV,ho]⟩
end
theorem Vc (t:Bs) (h:t.length≤100000000000):Ok 70 [sv t] (Is (.agg (us (eA 34 [t])))):=by
 refine bU lw70 (by simp) ?_
 unfold c70
 simp -implicitDefEqProofs only [rX,↓rY,aA,cells?,↓reduceIte,reduceCtorEq,aE,cF,isD,Nat.reduceLT,cxN,nU,aK,w16]
 refine aD (Qn 34 [t] (in1 h)) ⟨⟨trivial,yac 1,trivial⟩,rfl,⟨rfl,rfl⟩,trivial⟩ (by simp [ren,bE]) trivial ?_
 obtain ⟨u1,u2,u3⟩:=fN (bM (k:=34) (l:=[t]))
 obtain ⟨z1,z2,z3⟩:=fN dM
 simp -implicitDefEqProofs only [rX,↓rY,cells?,splice,↓reduceIte,Nat.reduceEqDiff,aT,aX,wfV,u1,u2,z1,z3,iW,dX]
def wgt (l:List Op):Int:=l.foldl (fun n x=>n+(x.2.2.length:Int)) 0
theorem tY {l:List Op} {k:Nat} (h:k<l.length):wgt (l.take (k+1))=wgt (l.take k)+(l[k].2.2.length:Int):=by
 unfold wgt
 rw [yau,yai h,List.foldl_append];rfl
theorem Sh {l:List Op} (h:∀ x∈l,x.2.2.length≤1000000) {k:Nat} (hk:k≤l.length):0≤wgt (l.take k)∧wgt (l.take k)≤1000000*k:=by
 induction k with
 | zero=>simp [wgt]
 | succ k ih =>
  have:=ih (by omega)
  have h2:=h _ (yal (show k<l.length by omega))
  rw [tY (by omega)]
  omega
theorem adC (a b:Bs) (s:Int) (l:List Op) (ha:a.length=16) (hb:b.length=16) (hl:l.length≤1000000) (hw:∀ x∈l,x.2.2.length≤1000000):Ok 25 [.agg (pe a b s (rO l))] (Is (.i (wgt l))):=by
 refine bU lw25 (by simp) ?_
 unfold c25
 simp -implicitDefEqProofs only [rX,↓rY,aA,cells?,↓reduceIte,Nat.reduceEqDiff,aE,cxN,aK,Ci,ha,hb]
 intro _
 refine aQ (fun k:Nat=>⟨[(9,.i k),(8,.i l.length),(7,rO l),(3,.i (wgt (l.take k)))],[],1⟩) (fun k=>k≤l.length) (fun k=>l.length-k) 0 (yaj _) ?_ ?_
 ·simp -implicitDefEqProofs only [rX,↓reduceIte,Nat.reduceEqDiff,leE,leH,aC,wfE,wfB,wfV,yaA,wgt,List.foldl_nil]
 rintro k hk
 unfold c25l0
 simp -implicitDefEqProofs only [rX,↓rY,aA,cells?,splice,↓reduceIte,Nat.reduceEqDiff,Nat.reduceAdd,aE,aT,aX,leE,leH,aC,wfE,wfB,wfV,isC,yaf,yah,cC,nU]
 cases hd:decide ((k:Int)<l.length) with
 | false =>
  have hd':=of_decide_eq_false hd
  have:k=l.length:=by omega
  subst this
  simp -implicitDefEqProofs only [↓rY,kc,ybe]
 | true =>
  have hd':=of_decide_eq_true hd
  have hkl:k<l.length:=by omega
  simp only [kb]
  have h1:=Sh hw (k:=k) hk
  have h2:=Sh hw (k:=k+1) (by omega)
  rw [tY hkl] at h2
  refine ⟨⟨by omega,by omega⟩,hkl,?_⟩
  refine ⟨by simp only [lo,Fx.hi];omega,by simp only [lo,Fx.hi];omega,k+1,⟨by omega,by omega⟩,?_⟩
  rw [tY hkl]
  exact ⟨by omega,rfl⟩
theorem Lm {a b:Bs}:(sb a==sb b)=(a==b):=by
 show (a.toArray==b.toArray)=(a==b)
 simp
theorem eqO {x y:Op} {K:Bool→Prop}:(cP (k6 (.agg [.i x.1,.i x.2.1,sv x.2.2])) fun xs=>cP (k6 (.agg [.i y.1,.i y.2.1,sv y.2.2])) fun ys=>eV xs ys [(0,.int .i64),(1,.int .i64),(2,.string)] K)=K (x==y):=by
 have e:(x==y)=((x.1==y.1)&&((x.2.1==y.2.1)&&((x.2.2==y.2.2)&&true))):=by
  obtain ⟨a,b,c⟩:=x
  obtain ⟨a',b',c'⟩:=y
  rw [Bool.and_true];rfl
 rw [e,←Lm]
 exact propext ⟨fun h=>h.2.2.2,fun h=>⟨⟨rfl,rfl⟩,⟨rfl,rfl⟩,⟨rfl,rfl⟩,h⟩⟩
end Go.Fx.H
namespace Go.Fx.H
open Go Go.Fx Go.Proofs Go.Fx.R
set_option maxRecDepth 20000
section
variable {a b:Bs} {s:Int} {o o':V}
theorem xX {M:List Nat} {x y:List V}:bH M (x++y)=bH M x++bH M y:=by
 induction x with
 | nil=>rfl
 | cons u r ih=>simp [bH,ih]
theorem Mb (ha:a.length=16) (hb:b.length=16):yap 33 (pe a b s o)++[o']=pe a b s o':=by
 have e:pe a b s o=(us a++(us b++[.i s]))++[o]:=by simp [pe]
 rw [e,yaF (by simp [dY,ha,hb]),yad (by simp [dY,ha,hb])]
 simp [pe]
theorem gK {M:List Nat}:bH M (pe a b s o)=pe a b s (kill M o):=by
 unfold pe
 rw [xX,xX,oV,oV];rfl
theorem Ce {f:Nat→Option Nat} {x y:List V}:cD f (x++y)=cD f x++cD f y:=by
 induction x with
 | nil=>rfl
 | cons u r ih=>simp [cD,ih]
theorem pF {f:Nat→Option Nat}:cD f (pe a b s o)=pe a b s (ren f o):=by
 unfold pe
 rw [Ce,Ce,bE,bE];rfl
end
abbrev rwO (l:List Op):Blk:=.arr 3 (l.map enO)
def flO (o:List Op) (new:Bs) (p i:Nat):List Op:=if p<i then o++[(0,0,(new.take i).drop p)] else o
theorem Yh (a b new:Bs) (s:Int) (l:List Op) (p i:Nat) (ha:a.length=16) (hb:b.length=16) (hl:l.length≤1000000) (hi:i≤new.length) (hn:new.length≤1000000) :
  OkN Tryz.prog 71 [.i i,.ptr 0 0 0,.ptr 1 0 0,.ptr 2 0 0] [.var [.i p],.var (pe a b s (.sl 3 0 l.length)),.var [sv new],rwO l] [3] (IsA (.tup []) [.var [.i p],.var (pe a b s (.sl 3 0 (flO l new p i).length)),.var [sv new],rwO (flO l new p i)]):=by
 refine fR pol [0,1,2] lw71 (by simp) ⟨trivial,trivial,trivial,trivial⟩ (fun k hk hm=>by simp at hk hm ⊢;omega) ?_
 unfold c71
 simp -implicitDefEqProofs only [rX,↓rY,qs,rdK,zC,cells?,splice,↓reduceIte,Nat.reduceEqDiff,Nat.reduceAdd,reduceCtorEq,aE,cS,bZ,cF,aT,aX,leH,leB,leV,dE,aC,aB,wfB,wfV,wfL,aS,bA,kill,bH,St.kill,isD,isC,Nat.reduceLT,yah,cxN,cC,nU,aK,mJ,Ci,gW,gK,ha,hb,bT]
 cases hd:decide ((p:Int)<i) with
 | false =>
  have hd':=of_decide_eq_false hd
  have e1:flO l new p i=l:=if_neg (by omega)
  rw [kc,e1]
  exact ⟨⟨cQ _,rfl⟩,uQ (by simp [wfV,aB])⟩
 | true =>
  have hd':=of_decide_eq_true hd
  have e1:flO l new p i=l++[(0,0,(new.take i).drop p)]:=if_pos (by omega)
  rw [kb,e1]
  refine ⟨⟨⟨by omega,by omega⟩,by omega,yaR _⟩,by omega,⟨?_,?_⟩,uQ (by simp [wfV,aB])⟩
  ·rw [Mb ha hb,yaa];exact cQ _
  ·rw [yad (by simp),iN]
   simp [rwO]
def s9 (old:Bs) (b:Nat) (q:Bs):Nat→Option Nat
 | 0=>none
 | j+1=>match s9 old b q j with
  | some f=>some f
  | none=>if bk old b j=q∧q.length=b then some (j*b) else none
def fnd (old:Bs) (b:Nat) (q:Bs):Option Nat:=s9 old b q (nb old.length b)
theorem rS {old q:Bs} {b f:Nat}:∀ {j},s9 old b q j=some f→∃ i,i<j∧f=i*b∧bk old b i=q∧q.length=b
 | 0,h=>by cases h
 | j+1,h=>by
  unfold s9 at h
  cases h1:s9 old b q j with
  | some g =>
   rw [h1] at h
   cases h
   obtain ⟨i,h2,h3⟩:=rS h1
   exact ⟨i,by omega,h3⟩
  | none =>
   rw [h1] at h
   simp only at h
   split at h
   ·rename_i h2
    cases h
    exact ⟨j,by omega,rfl,h2⟩
   ·cases h
theorem Rs {old:Bs} {b j:Nat} (h:(bk old b j).length=b) (hb:1≤b):j*b+b≤old.length:=by rw [Ay] at h;omega
def lkp (q:Bs):List (Bs × Nat)→Nat→Option (Nat × V)
 | [],_=>none
 | e::r,i=>if q=e.1 then some (i,.i e.2) else lkp q r (i+1)
def gO (old:Bs) (b:Nat):Nat→List (Bs × Nat)
 | 0=>[]
 | j+1=>if lkp (bk old b j) (gO old b j) 0=none∧(bk old b j).length=b then gO old b j++[(bk old b j,j*b)] else gO old b j
def esV:List (Bs × Nat)→Nat→List (Value × V × Nat)
 | [],_=>[]
 | e::r,i=>(.string (sb e.1),.i e.2,i)::esV r (i+1)
theorem Rd {l:List (Bs × Nat)} {x:Bs × Nat}:∀ {i},esV (l++[x]) i=esV l i++[(.string (sb x.1),.i x.2,i+l.length)]:=by
 induction l with
 | nil=>intro i;rfl
 | cons y r ih =>
  intro i
  show _::esV (r++[x]) (i+1)=_::(esV r (i+1)++_)
  rw [ih,yaY,show i+1+r.length=i+(r.length+1) by omega]
theorem uV {q:Bs}:∀ {l:List (Bs × Nat)} {i n},fP .string (.string (sb q)) (esV l n) i=some (lkp q l i)
 | [],_,_=>rfl
 | e::r,i,n=>by
  have hs:Instr.sameNow .string (.string (sb q)) (.string (sb e.1))=some (decide (q=e.1)):=by
   have e0:(sb q==sb e.1)=decide (q=e.1):=by rw [Lm,Bool.eq_iff_iff];simp
   rw [←e0];rfl
  show (match Instr.sameNow .string (.string (sb q)) (.string (sb e.1)) with
   | some true=>some (some (i,V.i e.2))
   | some false=>fP .string (.string (sb q)) (esV r (n+1)) (i+1)
   | none=>none)=_
  rw [hs]
  unfold lkp
  by_cases h:q=e.1
  ·rw [decide_eq_true h,if_pos h]
  ·rw [decide_eq_false h,if_neg h]
   exact uV
theorem Hu {q:Bs} {x:Bs × Nat}:∀ {l:List (Bs × Nat)} {i},lkp q (l++[x]) i=match lkp q l i with
  | some r=>some r
  | none=>if q=x.1 then some (i+l.length,.i x.2) else none
 | [],i=>rfl
 | e::r,i=>by
  show (if q=e.1 then _ else lkp q (r++[x]) (i+1))=match (if q=e.1 then _ else lkp q r (i+1)) with
   | some r=>some r
   | none=>_
  by_cases h:q=e.1
  ·rw [if_pos h,if_pos h]
  ·rw [if_neg h,if_neg h,Hu,yaY,show i+1+r.length=i+(r.length+1) by omega]
theorem Ht {old q:Bs} {b:Nat}:∀ {j},(lkp q (gO old b j) 0).map (·.2)=(s9 old b q j).map fun f=>V.i (f:Nat)
 | 0=>rfl
 | j+1=>by
  have ih:=Ht (old:=old) (q:=q) (b:=b) (j:=j)
  unfold gO s9
  by_cases h:lkp (bk old b j) (gO old b j) 0=none∧(bk old b j).length=b
  ·rw [if_pos h,Hu]
   cases h1:lkp q (gO old b j) 0 with
   | some r =>
    rw [h1] at ih
    cases h2:s9 old b q j with
    | none=>rw [h2] at ih;simp at ih
    | some f=>rw [h2] at ih;simpa using ih
   | none =>
    rw [h1] at ih
    cases h2:s9 old b q j with
    | some f=>rw [h2] at ih;simp at ih
    | none =>
     simp only
     by_cases h3:q=bk old b j
     ·rw [if_pos h3,if_pos ⟨h3.symm,by rw [h3];exact h.2⟩];rfl
     ·rw [if_neg h3,if_neg (fun h4=>h3 h4.1.symm)];rfl
  ·rw [if_neg h]
   cases h2:s9 old b q j with
   | some f=>rw [h2] at ih;simpa using ih
   | none =>
    rw [h2] at ih
    simp only
    rw [if_neg ?_]
    ·exact ih
    ·rintro ⟨h3,h4⟩
     subst h3
     refine h ⟨?_,h4⟩
     cases h5:lkp (bk old b j) (gO old b j) 0 with
     | none=>rfl
     | some r=>rw [h5] at ih;simp at ih
end Go.Fx.H
namespace Go.Fx.H
open Go Go.Fx Go.Proofs Go.Fx.R
set_option maxRecDepth 20000
theorem Bh:[V.v (Value.int IntKind.u8 0),V.v (Value.int IntKind.u8 0),V.v (Value.int IntKind.u8 0),V.v (Value.int IntKind.u8 0),V.v (Value.int IntKind.u8 0),V.v (Value.int IntKind.u8 0),V.v (Value.int IntKind.u8 0),V.v (Value.int IntKind.u8 0),V.v (Value.int IntKind.u8 0),V.v (Value.int IntKind.u8 0),V.v (Value.int IntKind.u8 0),V.v (Value.int IntKind.u8 0),V.v (Value.int IntKind.u8 0),V.v (Value.int IntKind.u8 0),V.v (Value.int IntKind.u8 0),V.v (Value.int IntKind.u8 0),V.v (Value.int IntKind.u8 0),V.v (Value.int IntKind.u8 0),V.v (Value.int IntKind.u8 0),V.v (Value.int IntKind.u8 0),V.v (Value.int IntKind.u8 0),V.v (Value.int IntKind.u8 0),V.v (Value.int IntKind.u8 0),V.v (Value.int IntKind.u8 0),V.v (Value.int IntKind.u8 0),V.v (Value.int IntKind.u8 0),V.v (Value.int IntKind.u8 0),V.v (Value.int IntKind.u8 0),V.v (Value.int IntKind.u8 0),V.v (Value.int IntKind.u8 0),V.v (Value.int IntKind.u8 0),V.v (Value.int IntKind.u8 0),V.v (Value.int IntKind.i64 0),V.v (Value.slice none 0 0)]=pe z16 z16 0 (.v (.slice none 0 0)):=by unfold pe us z16;rfl
section
variable {a b:Bs} {s:Int} {o v:V}
theorem Mc (ha:a.length=16) (hb:b.length=16):yaq 32 (pe a b s o)=[.i s,o]:=by
 rw [show 32=16+16 from rfl,←List.drop_drop,Yd ha,yaG (by rw [dY];omega),yam (by rw [dY];omega)];rfl
theorem Ux (ha:a.length=16) (hb:b.length=16):yaq 33 (pe a b s o)=[o]:=by
 rw [show 33=32+1 from rfl,←List.drop_drop,Mc ha hb];rfl
theorem Uu (ha:a.length=16) (hb:b.length=16):yap 32 (pe a b s o)=us a++us b:=by
 unfold pe
 rw [←yak,yaF (by rw [yaa,dY,dY];omega),yad (by rw [yaa,dY,dY];omega)]
theorem r1 {d:Bs} (ha:a.length=16):us d++yaq 16 (pe a b s o)=pe d b s o:=by rw [Yd ha];rfl
theorem r2 {d:Bs} (ha:a.length=16) (hb:b.length=16):us a++us d++yaq 32 (pe a b s o)=pe a d s o:=by rw [Mc ha hb,yak];rfl
theorem r3 {n:Int} (ha:a.length=16) (hb:b.length=16):yap 32 (pe a b s o)++[V.v (.int .i64 n)]++yaq 33 (pe a b s o)=pe a b n o:=by
 rw [Ux ha hb,Uu ha hb]
 simp [pe]
end
def Ox (o:List Op) (c:Bs):List Op :=
 match o.getLast? with
 | some x=>if x.2.2≠[] then o.dropLast++[(x.1,x.2.1,x.2.2++c)] else o++[(0,0,c)]
 | none=>o++[(0,0,c)]
def vX (o:List Op) (f b:Nat):List Op :=
 match o.getLast? with
 | some x=>if x.2.2=[]∧x.2.1=f then o.dropLast++[(x.1,(f:Int)+b,x.2.2)] else o++[((f:Int),(f:Int)+b,[])]
 | none=>o++[((f:Int),(f:Int)+b,[])]
def pc (new:Bs) (b i:Nat):Bs:=(new.drop i).take b
def mH (old new:Bs) (b i:Nat) (o:List Op):List Op :=
 if i<new.length then
  match fnd old b (pc new b i) with
  | none=>mH old new b (i+1) (Ox o (pc new 1 i))
  | some f=>mH old new b (i+(b-1)+1) (vX o f b)
 else o
termination_by new.length-i
def dfE (old new:Bs) (b:Int):Int:=if b<1∨4096<b then 1 else if 65536<(max old.length new.length:Nat) then 2 else 0
def dig (t:Bs):Bs:=eA 34 [t]
def dfO (old new:Bs) (b:Int):List Op:=if dfE old new b≠0 then [] else mH old new b.toNat 0 []
def dfP (old new:Bs) (b:Int) (o:V):List V:=if dfE old new b≠0 then pe z16 z16 0 o else pe (dig old) (dig new) new.length o
theorem Sn {a b:Bs} {s:Int} {o:V} {M:Nat→Bool} {h:List Blk}:gvL M h (pe a b s o)=pe a b s (gvV M h o):=by
 have app:∀ x y:List V,gvL M h (x++y)=gvL M h x++gvL M h y:=by
  intro x y
  induction x with
  | nil=>rfl
  | cons u r ih=>simp [gvL,ih]
 have ug:∀ l:Bs,gvL M h (us l)=us l:=fun l=>yT _ mY
 unfold pe
 rw [app,app,ug,ug];rfl
theorem Gg {x y x' y':List V} (h1:wkL x x') (h2:wkL y y') (hl:x.length=x'.length):wkL (x++y) (x'++y'):=by
 induction x generalizing x' with
 | nil=>cases x' with
  | nil=>exact h2
  | cons=>simp at hl
 | cons u r ih=>cases x' with
  | nil=>simp at hl
  | cons u' r'=>exact ⟨h1.1,ih h1.2 (by simpa using hl)⟩
theorem Ko {l:Bs}:wkL (us l) (us l):=by
 have h:=(dV (l:=l) (h:=[]) (g:=fun _=>none)).2
 have e:∀ x:List V,(∀ v∈x,∃ u,v=.v u)→aZ [] (fun _=>none) x=x:=by
  intro x hx
  induction x with
  | nil=>rfl
  | cons v r ih =>
   obtain ⟨u,rfl⟩:=hx v yaz
   show V.v u::aZ [] (fun _=>none) r=_
   rw [ih fun w hw=>hx w (yaw _ hw)]
 rwa [e _ mY] at h
theorem Ma {a b:Bs} {s:Int} {o o':V} (h:wk o o'):wkL (pe a b s o) (pe a b s o'):=Gg Ko (Gg Ko ⟨rfl,h,trivial⟩ rfl) rfl
def Do:LCode→LCode
 | .block _ b=>b
 | c=>c
abbrev cE:Cx:=cxN Tryz.prog []
abbrev h21 (D1 D2 new:Bs) (o:List Op):List Blk:=[.var (pe z16 z16 0 (.v (.slice none 0 0))++[.i 0]),.var (pe D1 D2 new.length (.sl 2 0 o.length)),rwO o]
theorem Uy {new:Bs} {b i:Nat}:(pc new b i).length=min b (new.length-i):=by simp [pc]
section
variable {old new D1 D2:Bs} {n i:Nat} {o:List Op} {N R:St→Prop} {X:Nat→St→Prop} {e:Env} {bb:Nat}
theorem set_last {o1:List Op} {x y:Op}:((o1++[x]).map enO).set o1.length (enO y)=(o1++[y]).map enO:=by
 rw [yaI,yaI,yaD _ _ (by simp)]
 simp
theorem Dw {o:List Op} {x:Op} {c:Bs}:Ox (o++[x]) c=if x.2.2≠[] then o++[(x.1,x.2.1,x.2.2++c)] else (o++[x])++[(0,0,c)]:=by
 unfold Ox
 rw [ybj,ybs]
 simp only [Option.some_or,ybt]
theorem mV {o:List Op} {x:Op} {f b:Nat}:vX (o++[x]) f b=if x.2.2=[]∧x.2.1=f then o++[(x.1,(f:Int)+b,x.2.2)] else (o++[x])++[((f:Int),(f:Int)+b,[])]:=by
 unfold vX
 rw [ybj,ybs]
 simp only [Option.some_or,ybt]
end
end Go.Fx.H
namespace Go.Fx.H
open Go Go.Fx Go.Proofs Go.Fx.R
set_option maxRecDepth 20000
theorem Uw {a b:Bs} {s:Int} {z:Nat} (ha:a.length=16) (hb:b.length=16) {i:Nat} {x y:V} (hx:(pe a b s (.v (.slice none 0 0)))[i]?=some x) (hy:(pe a b s (.sl z 0 0))[i]?=some y):y6 x y:=by
 have e:∀ o,pe a b s o=(us a++(us b++[.i s]))++[o]:=fun o=>by simp [pe]
 have hl:(us a++(us b++[V.i s])).length=33:=by simp [dY,ha,hb]
 rw [e] at hx hy
 rcases ybi i 33 with h|h
 ·rw [List.getElem?_append_left (by omega)] at hx hy
  rw [hx] at hy
  exact .inl (Option.some.inj hy).symm
 ·rw [yaH (by omega)] at hx hy
  rcases Nat.eq_or_lt_of_le h with h|h
  ·rw [hl,←h] at hx hy
   simp at hx hy
   subst hx hy
   exact .inr ⟨rfl,_,rfl⟩
  ·rw [List.getElem?_eq_none (by rw [hl];simp;omega)] at hx
   cases hx
theorem Wg {old q:Bs} {b f:Nat} (h:fnd old b q=some f):f+b≤old.length∨b=0:=by
 obtain ⟨j,h1,h2,h3,h4⟩:=rS h
 rcases yav b with h5|h5
 ·exact .inr h5
 ·left;rw [h2];exact Rs (by rw [h3,h4]) h5
theorem nF {old new:Bs} {b i:Nat} {o:List Op} (hb:1≤b) (h:i<new.length):mH old new b i o=match fnd old b (pc new b i) with
  | none=>mH old new b (i+1) (Ox o (pc new 1 i))
  | some f=>mH old new b (i+b) (vX o f b):=by
 rw [mH,if_pos h]
 cases fnd old b (pc new b i) with
 | none=>rfl
 | some f=>simp only;rw [show i+(b-1)+1=i+b by omega]
theorem Dk {old new:Bs} {b i:Nat} {o:List Op} (h:new.length≤i):mH old new b i o=o:=by
 rw [mH,if_neg (by omega)]
end Go.Fx.H
namespace Go.Fx.H
open Go Go.Fx Go.Proofs Go.Fx.R
set_option maxRecDepth 20000
theorem c20_parts:c20=.seq (pt 0 c20) (.seq (pt 1 c20) (.seq (pt 2 c20) (.seq (pt 3 c20) (.seq (pt 4 c20) (.seq (pt 5 c20) (.seq (pt 6 c20) (.seq (pt 7 c20) (.seq (pt 8 c20) (rt 9 c20))))))))):=by rfl
abbrev zP:List V:=pe z16 z16 0 (.v (.slice none 0 0))
structure E20 (old:Bs) (e:Env):Prop where
 e0:get e 0=sv old
 e4:get e 4=.ptr 0 0 0
 e5:get e 5=.ptr 1 0 0
 e6:get e 6=.ptr 2 0 0
 e7:get e 7=.i 0
abbrev hpE (old new:Bs) (n:Nat) (j:Nat):List Blk:=[.var [sv new],.var [.i n],.var zP,.map (esV (gO old n j) 0) (gO old n j).length,.var [.mp 3],.var [sv old],.var [.i n],.rcd .ready [(39,.clo 111 [.ptr 5 0 0,.ptr 6 0 0]),(8,.ptr 4 0 0),(0,sv old),(4,.ptr 0 0 0),(5,.ptr 1 0 0),(6,.ptr 2 0 0),(7,.i 0)]]
abbrev Ni (old new:Bs) (n:Nat):List Blk:=[.var [sv new],.var [.i n],.var zP,.map (esV (gO old n (nb old.length n)) 0) (gO old n (nb old.length n)).length,.var [.mp 3],.var [sv old],.var [.i n],.dead]
theorem tV {q:List Blk}:wfL q zP:=uQ trivial
theorem yE {q:List Blk}:∀ {l:List (Bs × Nat)} {i:Nat},wfL q ((esV l i).map (·.2.1)):=by
 intro l
 induction l with
 | nil=>intro i;trivial
 | cons x r ih=>intro i;exact ⟨trivial,ih⟩
theorem itM (old new:Bs) (n:Nat) (hb:1≤n∧n≤1000000000) (ht:old.length≤1000000000):ItB (hpE old new n) 8 old n 7 5 6 [7]:=by
 refine ⟨hb,ht,fun g=>rfl,fun g tl=>rfl,fun g tl=>rfl,fun g=>⟨trivial,trivial⟩,fun g=>?_,fun g=>⟨_,_,rfl⟩⟩
 simp -implicitDefEqProofs only [rX,aB,wfE,wfB,wfV,wfL,tV]
 exact yE
section
variable {old new:Bs} {n:Nat} {N R:St→Prop} {X:Nat→St→Prop} {e:Env} {bb:Nat}
theorem Xj (hn:1≤n) (hn2:n≤4096) (h1:old.length≤1000) (h2:new.length≤1000) (hE:E20 old e)
  (hN:∀ e b',E20 old e→get e 8=.ptr 4 0 0→N ⟨e,Ni old new n,b'⟩):aw cE (pt 2 c20) (fun s'=>aw cE (pt 3 c20) N X R s') X R ⟨e,[.var [sv new],.var [.i n],.var zP],3⟩:=by
 obtain ⟨e0,e4,e5,e6,e7⟩:=hE
 conv=>arg 2;whnf
 simp -implicitDefEqProofs only [rX,↓rY,aA,cells?,splice,↓reduceIte,Nat.reduceEqDiff,Nat.reduceAdd,aE,isC,cxN]
 conv=>arg 2;whnf
 simp -implicitDefEqProofs only [rX,↓rY,↓reduceIte,Nat.reduceEqDiff,Nat.reduceAdd,reduceCtorEq,e0,e5]
 refine eO [sv old,.i n] (.clo 111 [.ptr 0 0 0,.ptr 1 0 0]) (.clo 111 [.ptr 5 0 0,.ptr 6 0 0]) [.var [sv old],.var [.i n]] [.var [sv old],.var [.i n]] (Ve old n) ⟨⟨trivial,trivial,trivial⟩,rfl,rfl,trivial⟩ (by simp [ren,cD]) (by simp [bQ,cD,ren]) trivial ?_
 simp -implicitDefEqProofs only [rX]
 refine uG 7 rfl rfl trivial ?_
 refine pW (as':=[.itr 7,.ptr 5 0 0,.ptr 6 0 0]) (h':=hpE old new n 0) rfl ⟨_,.refl _,?_⟩ (Nb (Inv:=fun i g=>g=i) (itM old new n (by omega) (by omega)) ?_ ?_ _ rfl)
 ·simp -implicitDefEqProofs only [rX,↓reduceIte,Nat.reduceEqDiff,Nat.reduceAdd,reduceCtorEq,leE,leH,leB,leV,dE,aC,aB,wfE,wfB,wfV,wfL,aK,e0,e4,e5,e6,e7,tV]
  exact ⟨⟨cQ _,rfl,.inr trivial⟩,yE⟩
 ·rintro i g hi rfl e2 bb Z he hZ
  refine Bi 8 rfl rfl rfl ?_
  unfold c20a0
  simp -implicitDefEqProofs only [rX,rZ,↓rW,↓reduceIte,Nat.reduceEqDiff,Nat.reduceAdd,gR]
  unfold c20r0
  simp -implicitDefEqProofs only [rX,↓rY,rZ,↓rW,zq,zt,aA,↓reduceIte,Nat.reduceEqDiff,Nat.reduceAdd,reduceCtorEq,↓jl,↓jo,cC]
  rw [uV]
  refine ⟨rfl,?_⟩
  have hnx:∀ B tl,B=.map (esV (gO old n (g+1)) 0) (gO old n (g+1)).length→Z (.b true) ⟨e2,[.var [sv new],.var [.i n],.var zP,B,.var [.mp 3],.var [sv old],.var [.i n],.rcd .ready [(39,.clo 111 [.ptr 5 0 0,.ptr 6 0 0]),(8,.ptr 4 0 0),(0,sv old),(4,.ptr 0 0 0),(5,.ptr 1 0 0),(6,.ptr 2 0 0),(7,.i 0)]]++tl,bb⟩:=by
   rintro B tl rfl
   exact hZ e2 (g+1) tl he rfl
  cases hl:lkp (bk old n g) (gO old n g) 0 with
  | some r =>
   have e1:gO old n (g+1)=gO old n g:=by
    rw [gO,if_neg (by rw [hl];simp)]
   simp -implicitDefEqProofs only [rX,↓rY,eX,↓reduceIte,kc]
   exact hnx _ [_] (by rw [e1])
  | none =>
   simp -implicitDefEqProofs only [rX,↓rY,aA,↓jq,↓jr,kb]
   cases hb2:(((bk old n g).length:Int)==n) with
   | false =>
    have hne:(bk old n g).length≠n:=by
     have:((bk old n g).length:Int)≠n:=by simpa using hb2
     omega
    have e1:gO old n (g+1)=gO old n g:=by
     rw [gO,if_neg (fun h=>hne h.2)]
    rw [kc]
    exact hnx _ [_] (by rw [e1])
   | true =>
    have hne:(bk old n g).length=n:=by
     have:((bk old n g).length:Int)=n:=by simpa using hb2
     omega
    have e1:gO old n (g+1)=gO old n g++[(bk old n g,g*n)]:=by
     rw [gO,if_pos ⟨hl,hne⟩]
    rw [kb]
    refine ⟨rfl,hnx _ [_] ?_⟩
    rw [e1,Rd,yaa,Nat.zero_add]
    rfl
 ·rintro g rfl
  simp -implicitDefEqProofs only [rX,rZ,↓rW,aB,wfE,wfB,wfV,wfL,tV]
  exact ⟨yE,hN _ _ ⟨rfl,rfl,rfl,rfl,rfl⟩ rfl⟩
end
end Go.Fx.H
namespace Go.Fx.H
open Go Go.Fx Go.Proofs Go.Fx.R
set_option maxRecDepth 20000
abbrev hQ (old new D1 D2:Bs) (n p:Nat) (o:List Op):List Blk:=Ni old new n++[.var (pe D1 D2 new.length (.sl 10 0 o.length)),.var [.i p],rwO o]
section
variable {old new:Bs} {n:Nat} {N R:St→Prop} {X:Nat→St→Prop} {e:Env} {bb:Nat}
set_option maxHeartbeats 1000000 in
theorem Xi (h1:old.length≤1000) (h2:new.length≤1000) (hE:E20 old e) (e8:get e 8=.ptr 4 0 0)
  (hN:∀ e b' D1 D2,D1=dig old→D2=dig new→E20 old e→get e 8=.ptr 4 0 0→get e 13=.ptr 8 0 0→N ⟨e,Ni old new n++[.var (pe D1 D2 new.length (.v (.slice none 0 0)))],b'⟩):aw cE (pt 4 c20) N X R ⟨e,Ni old new n,bb⟩:=by
 obtain ⟨e0,e4,e5,e6,e7⟩:=hE
 conv=>arg 2;whnf
 have o1:=Vc old (by omega)
 have o2:=Vc new (by omega)
 have d1:(dig old).length=16:=bM
 have d2:(dig new).length=16:=bM
 rw [show eA 34 [old]=dig old from rfl] at o1
 rw [show eA 34 [new]=dig new from rfl] at o2
 have hN':=fun e b'=>hN e b' (dig old) (dig new) rfl rfl
 generalize dig old=D1 at *
 generalize dig new=D2 at *
 simp -implicitDefEqProofs only [rX,↓rY,qg,rdK,aA,cells?,↓reduceIte,Nat.reduceEqDiff,Nat.reduceAdd,aE,cxN,cC,e0,e4,Bh]
 refine ⟨?_,?_⟩
 ·refine aD o1 ⟨⟨trivial,trivial⟩,rfl,trivial⟩ (by simp [ren,bE]) trivial ?_
  simp -implicitDefEqProofs only [rX,↓rY,aA,cells?,↓reduceIte,Nat.reduceEqDiff,aE,Bh]
  refine ⟨?_,?_⟩
  ·refine aD o2 ⟨⟨trivial,trivial⟩,rfl,trivial⟩ (by simp [ren,bE]) trivial ?_
   simp -implicitDefEqProofs only [rX,↓rY,aA,cells?,splice,↓reduceIte,Nat.reduceEqDiff,Nat.reduceAdd,aE,bZ,Nat.reduceLeDiff,Bh,mJ,Uv,gW,dM,d1,d2,r1,r2,r3,p_l,yat,yab,ybk,Nat.reduceAdd,show min 16 34=16 from rfl,show min 32 34=32 from rfl]
   refine ⟨Jg rfl,hN' _ _ ?_ ?_ ?_⟩
   ·exact ⟨e0,e4,e5,e6,e7⟩
   ·exact e8
   ·rfl
  ·refine aD o2 ⟨⟨trivial,trivial⟩,rfl,trivial⟩ (by simp [ren,bE]) trivial ?_
   simp -implicitDefEqProofs only [rX,↓rY,cells?,splice,↓reduceIte,Nat.reduceEqDiff,Nat.reduceAdd,bZ,Nat.reduceLeDiff,Bh,mJ,Uv,gW,dM,d1,d2,r1,r2,r3,p_l,yat,yab,ybk,Nat.reduceAdd,show min 16 34=16 from rfl,show min 32 34=32 from rfl]
   refine ⟨Jg rfl,hN' _ _ ?_ ?_ ?_⟩
   ·exact ⟨e0,e4,e5,e6,e7⟩
   ·exact e8
   ·rfl
 ·refine aD o1 ⟨⟨trivial,trivial⟩,rfl,trivial⟩ (by simp [ren,bE]) trivial ?_
  simp -implicitDefEqProofs only [rX,↓reduceIte,Nat.reduceEqDiff]
  refine aD o2 ⟨⟨trivial,trivial⟩,rfl,trivial⟩ (by simp [ren,bE]) trivial ?_
  simp -implicitDefEqProofs only [rX,↓rY,cells?,splice,↓reduceIte,Nat.reduceEqDiff,Nat.reduceAdd,bZ,Nat.reduceLeDiff,Bh,mJ,Uv,gW,dM,d1,d2,r1,r2,r3,p_l,yat,yab,ybk,Nat.reduceAdd,show min 16 34=16 from rfl,show min 32 34=32 from rfl]
  refine ⟨Jg rfl,hN' _ _ ?_ ?_ ?_⟩
  ·exact ⟨e0,e4,e5,e6,e7⟩
  ·exact e8
  ·rfl
theorem c20l0_parts:c20l0=.seq (pt 0 c20l0) (.block 4 (.seq (pt 0 (Do (rt 1 c20l0))) (.seq (pt 1 (Do (rt 1 c20l0))) (.seq (pt 2 (Do (rt 1 c20l0))) (.seq (pt 3 (Do (rt 1 c20l0))) (.seq (pt 4 (Do (rt 1 c20l0))) (rt 5 (Do (rt 1 c20l0))))))))):=by rfl
structure E2L (i:Nat) (e:Env):Prop where
 e4:get e 4=.ptr 0 0 0
 e5:get e 5=.ptr 1 0 0
 e6:get e 6=.ptr 2 0 0
 e7:get e 7=.i 0
 e8:get e 8=.ptr 4 0 0
 e13:get e 13=.ptr 8 0 0
 e14:get e 14=.ptr 9 0 0
 e15:get e 15=.clo 71 [.ptr 9 0 0,.ptr 8 0 0,.ptr 0 0 0]
 e16:get e 16=.i i
theorem E2L.kill {i:Nat} {e:Env} (h:E2L i e):E2L i (aS [10] e):=by
 obtain ⟨e4,e5,e6,e7,e8,e13,e14,e15,e16⟩:=h
 exact ⟨by rw [a8,e4];rfl,by rw [a8,e5];rfl,by rw [a8,e6];rfl,by rw [a8,e7];rfl,by rw [a8,e8];rfl,by rw [a8,e13];rfl,by rw [a8,e14];rfl,by rw [a8,e15];rfl,by rw [a8,e16];rfl⟩
theorem pQ {M:List Nat}:∀ {l:List (Bs × Nat)} {i:Nat},(esV l i).map (fun e=>(e.1,kill M e.2.1,e.2.2))=esV l i
 | [],_=>rfl
 | x::r,i=>by
  show _::(esV r (i+1)).map _=_
  rw [pQ];rfl
theorem Xk {D1 D2:Bs} {p i:Nat} {o:List Op} (d1:D1.length=16) (d2:D2.length=16) (h2:new.length≤1000) (hi:i≤new.length) (ho:o.length≤1000000) (hE:E2L i e) (f:Nat) (e17:get e 17=.i f)
  (hN:∀ e b',E2L i e→get e 17=.i f→N ⟨e,hQ old new D1 D2 n p (flO o new p i),b'⟩):aw cE (pt 2 (Do (rt 1 c20l0))) N X R ⟨e,hQ old new D1 D2 n p o,bb⟩:=by
 have hE':=hE
 obtain ⟨e4,e5,e6,e7,e8,e13,e14,e15,e16⟩:=hE
 conv=>arg 2;whnf
 simp -implicitDefEqProofs only [rX,↓rY,↓reduceIte,Nat.reduceEqDiff,Nat.reduceAdd,cxN,e15,e16]
 have hE2:=hE'.kill
 have k17:get (aS [10] e) 17=.i f:=by rw [a8,e17];rfl
 refine dQ [9,8,0,10] [3] [10] [.i i,.ptr 0 0 0,.ptr 1 0 0,.ptr 2 0 0] (.tup []) (.tup []) _ _ (hQ old new D1 D2 n p (flO o new p i)) _ (Yh D1 D2 new new.length o p i d1 d2 ho hi (by omega)) (by simp) (by simp) ?_ (by simp [aM,bL,aZ,dF,wkL,wk,wkR,wkB,pos]) ?_ rfl rfl trivial ?_
 ·simp [blk,bQ,pF,ren,pos,cD]
 ·simp [bQ,pF,ren,back,cD,bO,bA,pQ,gK]
  exact ⟨rfl,rfl,rfl,rfl,rfl⟩
 simp -implicitDefEqProofs only [rX,↓reduceIte,Nat.reduceEqDiff,reduceCtorEq,aS,kill,bH,St.kill]
 refine hN _ _ ?_ ?_
 ·exact ⟨hE2.e4,hE2.e5,hE2.e6,hE2.e7,hE2.e8,hE2.e13,hE2.e14,hE2.e15,hE2.e16⟩
 ·exact k17
set_option maxHeartbeats 1000000 in
theorem Xh {D1 D2:Bs} {p i:Nat} {o:List Op} (hn:1≤n) (hn2:n≤4096) (d1:D1.length=16) (d2:D2.length=16) (ho:o.length≤100000) (hE:E2L i e) (f:Nat) (hf:f≤1000) (e17:get e 17=.i f)
  (hN:∀ e b' o' tl,E2L i e→o'=vX o f n→N ⟨e,hQ old new D1 D2 n p o'++tl,b'⟩):aw cE (pt 3 (Do (rt 1 c20l0))) N X R ⟨e,hQ old new D1 D2 n p o,bb⟩:=by
 have hk:=hE.kill
 obtain ⟨e4,e5,e6,e7,e8,e13,e14,e15,e16⟩:=hE
 have k13:=hk.e13
 have k17:get (aS [10] e) 17=.i f:=by rw [a8,e17];rfl
 conv=>arg 2;whnf
 rcases yaS o with rfl|⟨o1,x,rfl⟩
 ·simp -implicitDefEqProofs only [rX,↓rY,aA,cells?,splice,↓reduceIte,Nat.reduceEqDiff,fL,Nat.reduceAdd,reduceCtorEq,aE,bZ,cF,aS,bA,kill,bH,St.kill,isD,isC,Nat.reduceLT,Nat.reduceLeDiff,↓ji,cxN,fG,nU,e13,e17,e5,k13,hk.e5,pQ,mJ,Ci,gW,gK,Mb,d1,d2,show decide ((0:Int)<((0:Nat):Int))=false from rfl]
  refine fun _=>⟨by simp only [lo,Fx.hi];omega,by decide,?_⟩
  refine hN _ _ [((f:Int),(f:Int)+n,[])] [_,_] ?_ rfl
  exact ⟨hk.e4,hk.e5,hk.e6,hk.e7,hk.e8,hk.e13,hk.e14,hk.e15,hk.e16⟩
 ·rw [yaT] at *
  have hl1:((o1++[x]).length:Nat)=o1.length+1:=by simp
  have hd0:decide ((0:Int)<((o1.length+1:Nat):Int))=true:=decide_eq_true (by omega)
  have hidx:(((o1.length+1:Nat):Int)-1).toNat=o1.length:=by omega
  have hlast:∀ hh,(o1++[x])[(((o1.length+1:Nat):Int)-1).toNat]'hh=x:=by
   intro hh;simp only [hidx];simp
  have hle:o1.length+1≤100000:=by rw [←hl1];exact ho
  simp -implicitDefEqProofs only [rX,↓rY,aA,cells?,splice,↓reduceIte,Nat.reduceEqDiff,fL,Nat.reduceAdd,reduceCtorEq,aE,bZ,cF,aS,bA,kill,bH,St.kill,isD,isC,Nat.reduceLT,Nat.reduceLeDiff,↓ji,yaf,cxN,fG,nU,e13,e17,e5,k13,hk.e5,pQ,mJ,Ci,gW,gK,Mb,d1,d2,hl1,hd0,kb,hlast]
  have htk:yap (o1.length+1) ((o1++[x]).map enO)=(o1++[x]).map enO:=yad (by simp)
  have hpu:∀ e1 b1 tl,E2L i e1→(o1++[x])++[((f:Int),(f:Int)+n,[])]=vX (o1++[x]) f n→N ⟨e1,Ni old new n++[.var (pe D1 D2 new.length (.sl 10 0 (o1.length+1+1))),.var [.i p],.arr 3 ((o1++[x]).map enO++[[V.i f,V.i ((f:Int)+n),sv []]])]++tl,b1⟩:=by
   intro e1 b1 tl g1 g3
   have hs:=hN e1 b1 ((o1++[x])++[((f:Int),(f:Int)+n,[])]) tl g1 g3
   unfold hQ at hs
   rwa [yaa,hl1,show rwO ((o1++[x])++[((f:Int),(f:Int)+n,[])])=.arr 3 ((o1++[x]).map enO++[enO ((f:Int),(f:Int)+n,[])]) by unfold rwO;rw [yaI];rfl] at hs
  refine fun _=>⟨by simp only [lo,Fx.hi];omega,⟨by omega,by omega⟩,by omega,?_⟩
  cases h9:(x.2.2==[]) with
  | false =>
   have h9':x.2.2≠[]:=beq_eq_false_iff_ne.1 h9
   rw [kc,htk]
   refine ⟨by simp only [lo,Fx.hi];omega,by omega,?_⟩
   refine hpu _ _ [_,_] ?_ ?_
   ·exact ⟨hk.e4,hk.e5,hk.e6,hk.e7,hk.e8,hk.e13,hk.e14,hk.e15,hk.e16⟩
   ·rw [mV,if_neg (fun h=>h9' h.1)]
  | true =>
   have h9':x.2.2=[]:=beq_iff_eq.1 h9
   rw [kb]
   refine ⟨by simp only [lo,Fx.hi];omega,⟨by omega,by omega⟩,by omega,?_⟩
   cases h8:(x.2.1==(f:Int)) with
   | false =>
    have h8':x.2.1≠f:=beq_eq_false_iff_ne.1 h8
    rw [kc,htk]
    refine ⟨by simp only [lo,Fx.hi];omega,by omega,?_⟩
    refine hpu _ _ [_,_] ?_ ?_
    ·exact ⟨hk.e4,hk.e5,hk.e6,hk.e7,hk.e8,hk.e13,hk.e14,hk.e15,hk.e16⟩
    ·rw [mV,if_neg (fun h=>h8' h.2)]
   | true =>
    have h8':x.2.1=f:=beq_iff_eq.1 h8
    rw [kb]
    refine ⟨by simp only [lo,Fx.hi];omega,⟨by omega,by omega⟩,by omega,by simp only [lo,Fx.hi];omega,⟨by omega,by omega⟩,by omega,?_⟩
    rw [hidx,set_last (y:=(x.1,x.2.1+n,x.2.2)),h8']
    have hs:=fun e1 b1 tl=>hN e1 b1 (o1++[(x.1,(f:Int)+n,x.2.2)]) tl
    unfold hQ at hs
    rw [yaa,yaC] at hs
    refine hs _ _ [] ?_ ?_
    ·exact ⟨e4,e5,e6,e7,e8,e13,e14,e15,e16⟩
    ·rw [mV,if_pos ⟨h9',h8'⟩]
end
end Go.Fx.H
namespace Go.Fx.H
open Go Go.Fx Go.Proofs Go.Fx.R
set_option maxRecDepth 20000
def noB (o:List Op):Prop:=∀ x,o.getLast?=some x→x.2.2=[]
theorem Qs:noB []:=fun x h=>by cases h
theorem Mk {o:List Op} {f b:Nat}:noB (vX o f b):=by
 rcases yaS o with rfl|⟨o1,x,rfl⟩
 ·intro y hy;simp [vX] at hy;rw [←hy]
 ·rw [yaT,mV]
  intro y hy
  split at hy
  ·rename_i h
   simp at hy;rw [←hy];exact h.1
  ·rw [ybj] at hy
   simp at hy;rw [←hy]
theorem Dh {o:List Op} {new:Bs} {p:Nat}:flO o new p p=o:=if_neg (Nat.lt_irrefl p)
theorem Nq {o:List Op} {new:Bs} {p i:Nat} (h:noB o) (hp:p≤i) (hi:i<new.length):flO o new p (i+1)=Ox (flO o new p i) (pc new 1 i):=by
 have e0:∀ k,p≤k→k<new.length→(new.take (k+1)).drop p=(new.take k).drop p++pc new 1 k:=by
  intro k h1 h2
  rw [←yag k new]
  have e1:(yap k new++yaq k new).take (k+1)=yap k new++(yaq k new).take 1:=by
   rw [List.take_append,yad (by rw [yab];omega),yab]
   congr 2;omega
  have e2:(yap k new++yaq k new).take k=yap k new:=by
   rw [List.take_append,yab,yad (by rw [yab];omega)]
   rw [show k-min k new.length=0 by omega];simp
  rw [e1,e2,yaG (by rw [yab];omega)]
  simp [pc]
 rcases Nat.eq_or_lt_of_le hp with rfl|hp
 ·rw [Dh]
  have:flO o new p (p+1)=o++[(0,0,pc new 1 p)]:=by
   unfold flO
   rw [if_pos (by omega),e0 p (yac _) hi,yam (by rw [yab];omega)];rfl
  rw [this]
  rcases yaS o with rfl|⟨o1,x,rfl⟩
  ·rfl
  ·rw [yaT] at *
   rw [Dw,if_neg]
   have:=h x (by simp)
   simp [this]
 ·have e1:flO o new p (i+1)=o++[(0,0,(new.take i).drop p++pc new 1 i)]:=by
   unfold flO
   rw [if_pos (by omega),e0 i (by omega) hi]
  have e2:flO o new p i=o++[(0,0,(new.take i).drop p)]:=if_pos hp
  rw [e1,e2,Dw,if_pos]
  intro h9
  have:=congrArg ybh h9
  simp at this
  omega
theorem Rc {o:List Op} {new:Bs} {p i:Nat}:(flO o new p i).length≤o.length+1:=by
 unfold flO;split<;>simp
theorem Ow {o:List Op} {f b:Nat}:(vX o f b).length≤o.length+1:=by
 rcases yaS o with rfl|⟨o1,x,rfl⟩
 ·simp [vX]
 ·rw [yaT,mV];split<;>simp
theorem Wo {D1 D2 old new:Bs} {n p i:Nat} {o:List Op} {e:Env} {b:Nat} {K:V→St→Prop} (d1:D1.length=16) (d2:D2.length=16) (h2:new.length≤1000) (hi:i≤new.length) (ho:o.length≤1000000) (h3:K (.tup []) ⟨aS [10] e,hQ old new D1 D2 n p (flO o new p i),b⟩) :
  eL cE 71 [.i i,.ptr 9 0 0,.ptr 8 0 0,.ptr 0 0 0] ⟨e,hQ old new D1 D2 n p o,b⟩ K:=by
 refine dQ [9,8,0,10] [3] [10] [.i i,.ptr 0 0 0,.ptr 1 0 0,.ptr 2 0 0] (.tup []) (.tup []) _ _ (hQ old new D1 D2 n p (flO o new p i)) _ (Yh D1 D2 new new.length o p i d1 d2 ho hi (by omega)) (by simp [cxN]) (by simp [cxN]) ?_ (by simp [aM,bL,aZ,dF,wkL,wk,wkR,wkB,pos]) ?_ rfl rfl trivial h3
 ·simp [blk,bQ,pF,ren,pos,cD]
 ·simp [bQ,pF,ren,back,cD,bO,bA,pQ,gK]
  exact ⟨rfl,rfl,rfl,rfl,rfl⟩
theorem Yb:(pe z16 z16 0 (V.v (Value.slice none 0 0))).all isC=true:=Jg rfl
theorem adD (old new:Bs) (b:Int) (h1:old.length≤1000) (h2:new.length≤1000):Ok 20 [sv old,sv new,.i b] (Is (.tup [.agg (dfP old new b (rO (dfO old new b))),.i (dfE old new b)])):=by
 refine jX (R:=fun q hs=>wk (.tup [.agg (dfP old new b (rO (dfO old new b))),.i (dfE old new b)]) (gvV (fun _=>true) hs q)) ?_ fun _ _ h=>h
 refine bU lw20 (by simp) ?_
 rw [c20_parts]
 simp -implicitDefEqProofs only [qJ]
 conv=>arg 2;whnf
 simp -implicitDefEqProofs only [rX,↓rY,aA,cells?,↓reduceIte,Nat.reduceEqDiff,Nat.reduceAdd,reduceCtorEq,aE,cxN,aK,Bh]
 have hret:∀ (e:Env) (k:Int) (b':Nat) (tl:List Blk),get e 6=.ptr 2 0 0→get e 7=.v (.int .i64 k)→dfE old new b=k→k≠0→eT [] 0 [fC.cell 6 (some 34),fC.tmp 7] (fun q hs=>wk (.tup [.agg (dfP old new b (rO (dfO old new b))),.i (dfE old new b)]) (gvV (fun _=>true) hs q)) ⟨e,[.var [sv new],.var [.i b],.var zP]++tl,b'⟩:=by
  intro e k b' tl g6 g7 hk h0
  have e1:dfO old new b=[]:=if_pos (by rw [hk];exact h0)
  have e2:∀ o,dfP old new b o=pe z16 z16 0 o:=fun o=>if_pos (by rw [hk];exact h0)
  rw [eM,e1,e2,hk]
  simp -implicitDefEqProofs only [rX,↓rY,aT,aX,aC,wfV,wfL,g6,g7,mJ,pG,dM]
  refine ⟨([]:List Blk),⟨trivial,yaj _,tV,trivial⟩,?_⟩
  show wkL [V.agg (pe z16 z16 0 (rO [])),V.i k] (gvL (fun _=>true) [] [V.agg zP,V.i k])
  refine ⟨?_,rfl,trivial⟩
  show wkL _ (gvL _ _ zP)
  rw [Sn]
  exact Ma (by simp [wk,wkR,gvV])
 conv=>arg 2;whnf
 simp -implicitDefEqProofs only [rX,↓rY,aA,cells?,splice,↓reduceIte,Nat.reduceEqDiff,Nat.reduceAdd,reduceCtorEq,bZ,cC,Bh,mJ,gW,dM]
 have hb1:dfE old new b=1∨(1≤b∧b≤4096∧dfE old new b=0):=by
  unfold dfE
  by_cases h:b<1∨4096<b
  ·left;rw [if_pos h]
  ·right;rw [if_neg h,if_neg (by omega)];omega
 have hd3:decide ((65536:Int)<max (old.length:Int) (new.length:Int))=false:=decide_eq_false (by omega)
 cases hd1:decide (b<1) with
 | true =>
  rw [kb]
  have:=of_decide_eq_true hd1
  exact ⟨Yb,hret _ 1 _ [] rfl rfl (by unfold dfE;rw [if_pos (.inl this)]) (by decide)⟩
 | false =>
 rw [kc]
 cases hd2:decide (4096<b) with
 | true =>
  rw [kb]
  have:=of_decide_eq_true hd2
  exact ⟨Yb,hret _ 1 _ [] rfl rfl (by unfold dfE;rw [if_pos (.inr this)]) (by decide)⟩
 | false =>
 rw [kc,hd3,kc]
 have h5:=of_decide_eq_false hd1
 have h6:=of_decide_eq_false hd2
 have he0:dfE old new b=0:=by
  unfold dfE
  rw [if_neg (by omega),if_neg (by omega)]
 obtain ⟨n,rfl⟩:∃ n:Nat,b=n:=⟨b.toNat,by omega⟩
 have hb:1≤n∧n≤4096:=by omega
 have he1:∀ o,dfP old new (n:Int) o=pe (dig old) (dig new) new.length o:=fun o=>by unfold dfP;rw [if_neg (by rw [he0];decide)]
 have ho:dfO old new (n:Int)=mH old new n 0 []:=by unfold dfO;rw [if_neg (by rw [he0];decide),yah]
 refine Xj hb.1 hb.2 h1 h2 ⟨rfl,rfl,rfl,rfl,rfl⟩ ?_
 rintro e b' hE e8
 simp -implicitDefEqProofs only [qJ]
 refine Xi h1 h2 hE e8 ?_
 rintro e b' D1 D2 hD1 hD2 ⟨e0,e4,e5,e6,e7⟩ e8 e13
 have d1:D1.length=16:=by rw [hD1];exact bM
 have d2:D2.length=16:=by rw [hD2];exact bM
 rw [←hD1,←hD2] at he1
 conv=>arg 2;whnf
 simp -implicitDefEqProofs only [rX]
 conv=>arg 2;whnf
 simp -implicitDefEqProofs only [rX,↓rY,aA,cells?,splice,↓reduceIte,Nat.reduceAdd,aE,isC]
 conv=>arg 2;whnf
 simp -implicitDefEqProofs only [rX,↓reduceIte,Nat.reduceEqDiff,Nat.reduceAdd,e4,e13]
 conv=>arg 2;whnf
 simp -implicitDefEqProofs only [rX,aA,Nat.reduceAdd]
 refine eW (.virt 1 3 (by decide) (.nilB 8 (pe D1 D2 new.length (.v (.slice none 0 0))) (pe D1 D2 new.length (.sl 10 0 0)) rfl ⟨?_,?_⟩ (.refl _))) (fun g:Nat × Nat × List Op=>⟨[(16,.i g.1),(4,.ptr 0 0 0),(5,.ptr 1 0 0),(6,.ptr 2 0 0),(7,.i 0),(8,.ptr 4 0 0),(13,.ptr 8 0 0),(14,.ptr 9 0 0),(15,.clo 71 [.ptr 9 0 0,.ptr 8 0 0,.ptr 0 0 0])],hQ old new D1 D2 n g.2.1 g.2.2,10⟩) (fun g=>g.2.1≤g.1∧g.1≤new.length∧g.2.2.length≤g.1+g.1∧noB g.2.2∧mH old new n g.1 (flO g.2.2 new g.2.1 g.1)=mH old new n 0 []) (fun g=>new.length-g.1) (0,0,[]) ⟨yac _,yaj _,yaj _,Qs,rfl⟩ ?_ ?_
 ·rw [mJ d1 d2,mJ d1 d2]
 ·intro i x y hx hy
  exact Uw d1 d2 hx hy
 ·simp -implicitDefEqProofs only [rX,↓reduceIte,Nat.reduceEqDiff,leE,leH,leB,leV,dE,aC,aB,wfE,wfB,wfV,wfL,ybg,e4,e5,e6,e7,e8,e13]
  exact ⟨rfl,⟨cQ _,cQ _,rfl,rfl⟩,tV,yE,uQ (by simp [wfV,aB])⟩
 rintro ⟨i,p,o⟩ ⟨hpi,hi,hol,hnb,hd⟩
 simp only at hpi hi hol hnb hd
 rw [c20l0_parts]
 simp -implicitDefEqProofs only [qJ]
 conv=>arg 2;whnf
 simp -implicitDefEqProofs only [rX,↓rY,↓reduceIte,Nat.reduceEqDiff,Nat.reduceAdd,cC]
 cases hdi:decide ((i:Int)<(new.length:Int)) with
 | false =>
  have hdi':=of_decide_eq_false hdi
  have hie:i=new.length:=by omega
  rw [Dk (by omega)] at hd
  simp only [kc]
  conv=>arg 2;whnf
  simp -implicitDefEqProofs only [rX,↓rY,↓reduceIte,Nat.reduceEqDiff,Nat.reduceAdd,cC]
  refine Wo d1 d2 h2 (by omega) (by omega) ?_
  simp -implicitDefEqProofs only [rX,↓reduceIte,Nat.reduceEqDiff,reduceCtorEq,aS,kill,bH,St.kill]
  conv=>arg 2;whnf
  simp -implicitDefEqProofs only [rX,↓rY,aA,cells?,splice,↓reduceIte,Nat.reduceEqDiff,Nat.reduceAdd,aT,aX,aC,wfV,wfL,mJ,pG,gW,dM,d1,d2,eM]
  rw [he1,ho,he0,←hd,←hie]
  refine ⟨Jg rfl,[.dead,.dead,.dead,.dead,.dead,.dead,.dead,.dead,.dead,.dead,rwO (flO o new p i)],⟨⟨trivial,trivial,trivial,trivial,trivial,trivial,trivial,trivial,trivial,trivial,bG _,trivial⟩,yaj _,uQ (by simp [wfV,aB]),trivial⟩,?_⟩
  show wkL [V.agg _,V.i 0] (gvL _ _ [V.agg _,V.i 0])
  refine ⟨?_,rfl,trivial⟩
  show wkL _ (gvL _ _ _)
  rw [Sn]
  refine Ma ?_
  simp [gvV,blk,wk,wkR,yad]
 | true =>
 have hdi':=of_decide_eq_true hdi
 have hin:i<new.length:=by omega
 simp only [kb]
 conv=>arg 2;whnf
 simp -implicitDefEqProofs only [rX,↓rY,qg,qj,qs,rdK,zt,zC,↓reduceIte,Nat.reduceEqDiff,Nat.reduceAdd,cS,↓jl,↓jo,yah,cC]
 have hmn:(sb new).extract i (min (new.length:Int) ((i:Int)+(n:Int))).toNat=sb (pc new n i):=by
  rw [iN]
  congr 1
  unfold pc
  rw [show (min (new.length:Int) ((i:Int)+(n:Int))).toNat=min new.length (i+n) by omega,List.drop_take]
  rcases Nat.le_total (i+n) new.length with h|h
  ·rw [Nat.min_eq_right h];congr 1;omega
  ·rw [Nat.min_eq_left h,yad (by simp),yad (by simp;omega)]
 rw [hmn,uV]
 have hlk:=Ht (old:=old) (q:=pc new n i) (b:=n) (j:=nb old.length n)
 have hst:=nF (old:=old) (o:=flO o new p i) hb.1 hin
 rw [hd] at hst
 refine ⟨by simp only [lo,Fx.hi];omega,⟨⟨by omega,by omega⟩,by omega,yaR _⟩,rfl,?_⟩
 cases hl:lkp (pc new n i) (gO old n (nb old.length n)) 0 with
 | none =>
  have hf:fnd old n (pc new n i)=none:=by
   unfold fnd
   rw [hl] at hlk
   cases h9:s9 old n (pc new n i) (nb old.length n) with
   | none=>rfl
   | some f=>rw [h9] at hlk;simp at hlk
  rw [hf] at hst
  simp -implicitDefEqProofs only [rX,↓rY,aA,↓jq]
  conv=>arg 2;whnf
  simp -implicitDefEqProofs only [rX,↓rY,aA,↓reduceIte,Nat.reduceEqDiff,Nat.reduceAdd,leE,leH,leB,leV,dE,aC,aB,wfE,wfB,wfV,wfL]
  exact ⟨by simp only [lo,Fx.hi];omega,(i+1,p,o),⟨⟨by simp only;omega,by simp only;omega,by simp only;omega,hnb,by show mH old new n (i+1) (flO o new p (i+1))=_;rw [Nq hnb hpi hin];exact hst.symm⟩,by simp only;omega⟩,by simp only;omega,⟨cQ _,cQ _,rfl,rfl⟩,tV,yE,uQ (by simp [wfV,aB])⟩
 | some r =>
  obtain ⟨f,hf,hr⟩:∃ f:Nat,fnd old n (pc new n i)=some f∧r.2=.i f:=by
   unfold fnd
   rw [hl] at hlk
   cases h9:s9 old n (pc new n i) (nb old.length n) with
   | none=>rw [h9] at hlk;simp at hlk
   | some f=>rw [h9] at hlk;exact ⟨f,rfl,by simpa using hlk⟩
  rw [hf] at hst
  have hfl:=Wg hf
  have hpl:(pc new n i).length=n:=by
   obtain ⟨j,_,_,_,h4⟩:=rS hf
   exact h4
  rw [Uy] at hpl
  obtain ⟨r1,r2⟩:=r
  simp only at hr
  subst hr
  simp -implicitDefEqProofs only [rX,↓rY,↓jp]
  conv=>arg 2;whnf
  simp -implicitDefEqProofs only [rX,↓rY,↓reduceIte,Nat.reduceAdd]
  refine Xk d1 d2 h2 hi (by omega) ⟨rfl,rfl,rfl,rfl,rfl,rfl,rfl,rfl,rfl⟩ f rfl ?_
  rintro e b' hE e17
  simp -implicitDefEqProofs only [qJ]
  have hfo:=Rc (o:=o) (new:=new) (p:=p) (i:=i)
  refine Xh hb.1 hb.2 d1 d2 (by omega) hE f (by omega) e17 ?_
  rintro e b' o' tl ⟨e4,e5,e6,e7,e8,e13,e14,e15,e16⟩ ho'
  conv=>arg 2;whnf
  simp -implicitDefEqProofs only [rX]
  conv=>arg 2;whnf
  simp -implicitDefEqProofs only [rX,↓rY,↓reduceIte,Nat.reduceEqDiff,e5,e16]
  refine ⟨by simp only [lo,Fx.hi];omega,?_⟩
  conv=>arg 2;whnf
  simp -implicitDefEqProofs only [rX,↓rY,cells?,splice,↓reduceIte,Nat.reduceEqDiff,leE,leH,leB,leV,dE,aC,aB,wfE,wfB,wfV,wfL,isC,e4,e5,e6,e7,e8,e13,e14,e15]
  have hao:=Ow (o:=flO o new p i) (f:=f) (b:=n)
  subst ho'
  refine ⟨(i+n,i+n,vX (flO o new p i) f n),⟨⟨yac _,by simp only;omega,by simp only;omega,Mk,by show mH old new n (i+n) (flO _ new (i+n) (i+n))=_;rw [Dh];exact hst.symm⟩,by simp only;omega⟩,?_⟩
  exact ⟨by simp only;omega,⟨cQ _,cQ _,by simp only;omega,rfl⟩,tV,yE,uQ (by simp [wfV,aB])⟩
end Go.Fx.H
namespace Go.Fx.H
open Go Go.Fx Go.Proofs Go.Fx.R
set_option maxRecDepth 20000
def Ru (old:Bs) (x:Op):Prop:=(x.2.2=[]∧(x.1<0∨x.1≥x.2.1∨x.2.1>old.length))∨(x.2.2≠[]∧(x.1≠0∨x.2.1≠0))
instance {old:Bs} {x:Op}:Decidable (Ru old x):=inferInstanceAs (Decidable (_∨_))
def gN (old:Bs) (x:Op):Bs:=if x.2.2=[] then (old.take x.2.1.toNat).drop x.1.toNat else x.2.2
def apN (old:Bs):List Op→Bs→Option Bs
 | [],o=>some o
 | x::r,o=>if Ru old x then none else if 65536<(o++gN old x).length then none else apN old r (o++gN old x)
def apE (old a b:Bs) (s:Int) (l:List Op):Int :=
 if dig old≠a then 8 else match apN old l [] with
  | none=>3
  | some t=>if (t.length:Int)≠s then 3 else if dig t≠b then 8 else 0
def apR (old a b:Bs) (s:Int) (l:List Op):Bs:=if apE old a b s l≠0 then [] else (apN old l []).getD []
theorem Ou {old:Bs} {l:List Op} {k:Nat} {o:Bs} (h:k<l.length):apN old (l.drop k) o=if Ru old l[k] then none else if 65536<(o++gN old l[k]).length then none else apN old (l.drop (k+1)) (o++gN old l[k]):=by
 rw [yao h];rfl
abbrev h23 (a b:Bs) (s:Int) (l:List Op) (k:Int):List Blk:=[.var (pe a b s (rO l)),.var [.v (.string (sb [])),.i k]]
section
end
end Go.Fx.H
namespace Go.Fx.H
open Go Go.Fx Go.Proofs Go.Fx.R
set_option maxRecDepth 20000
theorem adE (a b:List Sp):Ok 16 [aL a,aL b] (Is (.b (a==b))):=by
 refine bU lw16 (by simp) ?_
 unfold c16
 simp -implicitDefEqProofs only [rX,aA,↓reduceIte,Nat.reduceEqDiff,reduceCtorEq,cxN,aK]
 refine aD (acX a b) ⟨⟨trivial,trivial,trivial⟩,⟨rfl,rfl⟩,⟨rfl,rfl⟩,trivial⟩ rfl trivial ?_
 simp -implicitDefEqProofs only [rX,↓reduceIte,aT,aX,wfV]
abbrev xA:Bs:=[97,98,99,100,101,102,103,104,105,106]
abbrev xB:Bs:=[97,98,99,100,101,88,103,104,105,106]
abbrev yA:Bs:=[97,98,99,100,101,102,103,104]
abbrev yB:Bs:=[97,98,99,100,88,101,102,103,104]
abbrev yC:Bs:=[97,98,99,100,101,102,103,88]
theorem h1:lf [101,88,103,104]≠lf [101,102,103,104]:=by decide +kernel
theorem h2:dig yC≠dig yA:=by decide +kernel
theorem h3:mkE xA 4=0:=by decide
theorem h4:nM [(0,2),(5,6),(8,9)] 2=[(0,2),(5,9)]:=by decide
theorem h5:xD [(0,2),(5,6),(8,9)] 2=0:=by decide
abbrev l0:Bs:=lf [97,98,99,100]
abbrev l1:Bs:=lf [101,102,103,104]
abbrev l2:Bs:=lf [105,106]
abbrev lX:Bs:=lf [105,120]
theorem xL:lvs xA 4=[l0,l1,l2]:=by
 have:Ol xA 4=[[97,98,99,100],[101,102,103,104],[105,106]]:=by decide
 unfold lvs;rw [this];rfl
theorem Ge:root [l0,l1]=nd l0 l1:=by
 rw [root,dif_pos (by decide)]
 have e:spl [l0,l1].length=1:=by decide
 rw [e]
 show nd (root [l0]) (root [l1])=_
 rw [root,dif_neg (by decide),root,dif_neg (by decide)];rfl
theorem Pm (x:Bs):root [x]=x:=by rw [root,dif_neg (by simp)];rfl
theorem Kc:root [l0,l1,l2]=nd (nd l0 l1) l2:=by
 rw [root,dif_pos (by decide)]
 have e:spl [l0,l1,l2].length=2:=by decide
 rw [e]
 show nd (root [l0,l1]) (root [l2])=_
 rw [Ge,Pm]
theorem Ke:eN [l0,l1,l2] 2=[nd l0 l1]:=by
 rw [eN,dif_pos (by decide)]
 have e:spl [l0,l1,l2].length=2:=by decide
 rw [e,if_neg (by decide)]
 show eN [l2] 0++[root [l0,l1]]=_
 rw [eN,dif_neg (by decide),Ge];rfl
theorem acF (x p:Bs):cl x 2 3 [p]=nd p x:=by
 have e:spl 3=2:=by decide
 rw [Ih (by decide) (by rw [e];decide),e,Au (by decide)]
 rfl
theorem h6:nd (nd l0 l1) lX≠nd (nd l0 l1) l2:=by decide +kernel
abbrev xM:Man:=⟨10,4,root [l0,l1,l2]⟩
theorem x_M:mkM xA 4=xM:=by
 unfold mkM
 rw [if_pos h3]
 show (⟨_,_,root (lvs xA 4)⟩:Man)=_
 rw [xL];rfl
theorem x_P:prE xA 4 2=0∧prL xA 4 2=[nd l0 l1]:=by
 have e:¬mkE xA 4≠0:=by rw [h3];decide
 unfold prE prL
 rw [if_neg e,if_neg e]
 show inE (lvs xA 4) 2=0∧inL (lvs xA 4) 2=_
 rw [xL]
 exact ⟨by decide,Ke⟩
theorem x_C:chE xM 2 [105,106] [nd l0 l1]=0:=by
 have e1:xM.n=3:=by decide
 have e2:xM.span 2=(8,10):=by decide
 have e3:ckI l2 2 3 [nd l0 l1] xM.rt=true:=by
  have:=Cz (l:=[l0,l1,l2]) (i:=2) (by decide)
  rw [Ke] at this
  exact this
 unfold chE
 rw [e1,e2,if_neg (by decide),if_neg]
 rw [e3]
 decide
theorem acG:chE xM 2 [105,120] [nd l0 l1]=8:=by
 have e1:xM.n=3:=by decide
 have e2:xM.span 2=(8,10):=by decide
 have e3:ckI lX 2 3 [nd l0 l1] xM.rt=false:=by
  show mP lX 2 3 [nd l0 l1] (root [l0,l1,l2])=false
  unfold mP
  rw [acF,Kc]
  have:=beq_eq_false_iff_ne.2 h6
  rw [this,Bool.and_false]
 unfold chE
 rw [e1,e2,if_neg (by decide),if_pos]
 exact .inr e3
abbrev yO:List Op:=[(0,4,[]),(0,0,[88]),(4,8,[])]
theorem y_E:dfE yA yB 4=0:=by decide
theorem y_O:dfO yA yB 4=yO:=by
 unfold dfO
 rw [if_neg (by rw [y_E];decide)]
 show mH yA yB 4 0 []=_
 have f0:fnd yA 4 (pc yB 4 0)=some 0:=by decide
 have f4:fnd yA 4 (pc yB 4 4)=none:=by decide
 have f5:fnd yA 4 (pc yB 4 5)=some 4:=by decide
 rw [nF (by decide) (by decide),f0]
 show mH yA yB 4 4 _=_
 rw [nF (by decide) (by decide),f4]
 show mH yA yB 4 5 _=_
 rw [nF (by decide) (by decide),f5]
 show mH yA yB 4 9 _=_
 rw [Dk (by decide)]
 decide
theorem y_P (o:V):dfP yA yB 4 o=pe (dig yA) (dig yB) 9 o:=by
 unfold dfP
 rw [if_neg (by rw [y_E];decide)];rfl
theorem y_N:apN yA yO []=some yB:=by decide
theorem y_A:apE yA (dig yA) (dig yB) 9 yO=0:=by
 unfold apE
 rw [if_neg (by simp),y_N]
 simp
theorem y_S:apR yA (dig yA) (dig yB) 9 yO=yB:=by
 unfold apR
 rw [y_A,if_neg (by decide),y_N];rfl
theorem y_B:apE yC (dig yA) (dig yB) 9 yO=8:=by
 unfold apE
 rw [if_pos h2]
theorem y_W:wgt yO=1:=by decide
theorem Wv:dmE xM [l0,l1,l2] xB [(0,10)]=0:=by
 refine dm0 ?_ rfl
 have e1:xM.n=3:=by decide
 have e2:vd [(0,10)]=true:=by decide
 have e3:iR [(0,10)]=10:=by decide
 rw [e1,e2,e3]
 decide
theorem acE:dmL xM [l0,l1,l2] xB [(0,10)]=[(4,8)]:=by
 unfold dmL
 rw [if_neg (by rw [Wv];decide)]
 show ofS (dmO [l0,l1,l2] xB 4 [(0,10)] 3)=_
 have g0:dmg [l0,l1,l2] xB 4 [(0,10)] 0=false:=by
  show ((lf [97,98,99,100] != l0)&&_)=false
  rw [bne_self_eq_false];rfl
 have g2:dmg [l0,l1,l2] xB 4 [(0,10)] 2=false:=by
  show ((lf [105,106] != l2)&&_)=false
  rw [bne_self_eq_false];rfl
 have g1:dmg [l0,l1,l2] xB 4 [(0,10)] 1=true:=by
  show ((lf [101,88,103,104] != l1)&&cov [(0,10)] (spn xB 4 1))=true
  have:(lf [101,88,103,104] != l1)=true:=bne_iff_ne.2 h1
  rw [this]
  decide
 have e0:dmO [l0,l1,l2] xB 4 [(0,10)] 3=[(4,8)]:=by
  rw [j7,j7,j7,g0,g1,g2]
  decide
 rw [e0]
 decide
end Go.Fx.H
namespace Go.Fx.H
open Go Go.Fx Go.Proofs Go.Fx.R
set_option maxRecDepth 20000
abbrev S13:Prop:=Ok 13 [] (Is (.b true))
end Go.Fx.H
namespace Go.Fx.H
open Go Go.Fx Go.Proofs Go.Fx.R
theorem Kt {l m:List Sp} (h:l.Perm m):tot l=tot m:=by
 induction h with
 | nil=>rfl
 | cons x _ ih=>rw [dG,dG,ih]
 | swap x y l=>simp only [dG];omega
 | trans _ _ a b=>rw [a,b]
theorem Ku {l:List Sp} (h:∀ s∈l,s.1≤s.2):0≤tot l:=by
 induction l with
 | nil=>simp [tot]
 | cons s r ih =>
  rw [dG]
  have:=h s yaz
  have:=ih fun t ht=>h t (yaw _ ht)
  omega
theorem pick {C G:List Sp} (h:C.Sublist G):∀ {m:Nat},G.Pairwise (fun s t=>s.2-s.1≤t.2-t.1)→(∀ s∈G,s.1≤s.2)→m≤C.length→tot (G.take m)≤tot C:=by
 induction h with
 | slnil=>intro m _ _ hm;simp [tot]
 | @cons C G g hs ih =>
  intro m hp hn hm
  obtain ⟨p1,p2⟩:=yae.1 hp
  have hn2:∀ s∈G,s.1≤s.2:=fun s hs=>hn s (yaw _ hs)
  match m with
  | 0=>rw [List.take_zero];exact Ku fun s hm=>hn2 s (hs.subset hm)
  | m+1 =>
   have h1:=ih p2 hn2 hm
   have hl:=hs.length_le
   have hlt:m<G.length:=by omega
   rw [ybu,dG]
   rw [yau,yai hlt] at h1
   have h2:tot (G.take m++(some G[m]).toList)=tot (G.take m)+(G[m].2-G[m].1):=by rw [mZ];simp [tot]
   rw [h2] at h1
   have:=p1 _ (yal hlt)
   omega
 | @cons_cons C G g hs ih =>
  intro m hp hn hm
  obtain ⟨p1,p2⟩:=yae.1 hp
  match m with
  | 0=>rw [List.take_zero];exact Ku fun s hm=>hn s ((hs.cons_cons g).subset hm)
  | m+1 =>
   have h1:=ih p2 (fun s hs=>hn s (yaw _ hs)) (show m≤C.length by simpa using hm)
   rw [ybu,dG,dG]
   omega
theorem Jk {l:List Sp}:(cU l).length=l.length-1:=by rw [←mQ];exact fI
theorem aaE:∀ {A:List Sp} {a b:Int},A≠[]→A.Pairwise (fun s t=>s.2<t.1)→(∀ s∈A,s.1<s.2)→(∀ s∈A,a≤s.1∧s.2≤b)→tot A+tot (cU A)≤b-a
 | [],_,_,h,_,_,_=>absurd rfl h
 | [x],a,b,_,_,_,h=>by
  have:=h x (by simp)
  simp only [cU,dG,yW]
  omega
 | x::y::r,a,b,_,hp,hs,h=>by
  obtain ⟨p1,p2⟩:=yae.1 hp
  obtain ⟨p3,_⟩:=yae.1 p2
  have hx:=h x (by simp)
  have hy:=hs y (by simp)
  have ih:=aaE (A:=y::r) (a:=y.1) (b:=b) (by simp) p2 (fun s hm=>hs s (yaw _ hm)) fun s hm=>by
   refine ⟨?_,(h s (yaw _ hm)).2⟩
   rcases yar.1 hm with rfl|hm
   ·exact yaR _
   ·have:=p3 s hm;omega
  unfold cU
  rw [dG (s:=x),dG (s:=(x.2,y.1))]
  simp only
  omega
theorem Qd {l:List Sp} (h:Sep l) (b:Int):∃ A B,l=A++B∧(∀ s∈A,s.1<b)∧∀ s∈B,b≤s.1:=by
 induction l with
 | nil=>exact ⟨[],[],rfl,by simp,by simp⟩
 | cons x r ih =>
  obtain ⟨h1,h2,h3⟩:=dZ.1 h
  by_cases hx:x.1<b
  ·obtain ⟨A,B,e,hA,hB⟩:=ih h3
   refine ⟨x::A,B,by rw [e];rfl,fun s hs=>?_,hB⟩
   rcases yar.1 hs with rfl|hs
   ·exact hx
   ·exact hA s hs
  ·refine ⟨[],x::r,rfl,by simp,fun s hs=>?_⟩
   rcases yar.1 hs with rfl|hs
   ·omega
   ·have:=h2 s hs;omega
theorem cover:∀ {T l:List Sp},Sep T→Sep l→(∀ x,inS l x→inS T x)→∃ C,C.Sublist (cU l)∧l.length≤C.length+T.length∧tot l+tot C≤tot T
 | [],l,_,hl,h=>by
  have e:l=[]:=by
   cases l with
   | nil=>rfl
   | cons x r =>
    have:=hl.1 x (by simp)
    exact absurd (h x.1 (bP.2 (.inl ⟨by omega,by omega⟩))) (by simp [inS])
  subst e
  exact ⟨[],by simp [cU],by simp,by simp [tot]⟩
 | t::T,l,hT,hl,h=>by
  obtain ⟨t1,t2,t3⟩:=dZ.1 hT
  obtain ⟨A,B,rfl,hA,hB⟩:=Qd hl t.2
  obtain ⟨sA,sB,sAB⟩:=gE.1 hl
  have ht:tot (t::T)=t.2-t.1+tot T:=dG
  obtain ⟨C,c1,c2,c3⟩:=cover (T:=T) (l:=B) t3 sB fun x hx=>by
   rcases bP.1 (h x (eR.2 (.inr hx))) with h1|h1
   ·obtain ⟨s,hs,h2⟩:=hx
    have:=hB s hs
    omega
   ·exact h1
  have hAin:∀ s∈A,t.1≤s.1∧s.2≤t.2:=by
   intro s hs
   have h1:=hA s hs
   have h2:=sA.1 s hs
   constructor
   ·rcases bP.1 (h s.1 (eR.2 (.inl ⟨s,hs,by omega,h2⟩))) with h3|h3
    ·exact h3.1
    ·have:=Ag t2 h3;omega
   ·rcases yaO t.2 s.2 with h4|h4
    ·rcases bP.1 (h t.2 (eR.2 (.inl ⟨s,hs,by omega,h4⟩))) with h3|h3
     ·omega
     ·have:=Ag t2 h3;omega
    ·exact h4
  rw [yaa,mZ,yaY,ht]
  rcases yaS A with rfl|⟨A',a,rfl⟩
  ·exact ⟨C,c1,by simp;omega,by rw [yW];omega⟩
  ·rw [yaT] at *
   have hh:=aaE (A:=A'++[a]) (by simp) sA.2 sA.1 hAin
   refine ⟨cU (A'++[a])++C,?_,?_,?_⟩
   ·have e:cU ((A'++[a])++B)=cU (A'++[a])++cU (a::B):=by rw [yak];exact nC A'
    rw [e]
    refine (List.Sublist.refl _).append ?_
    cases B with
    | nil=>exact c1
    | cons y r=>exact c1.cons _
   ·have:=Jk (l:=A'++[a])
    simp only [yaa,yaC] at *
    omega
   ·rw [mZ (l:=cU _)]
    omega
theorem Kw {O:List Sp} {b:Nat} (h:Sep O) (hb:b+1<O.length):tot (nO O (gap O b))=tot O+((gap O b).2-(gap O b).1):=by
 obtain ⟨A,x,y,B,rfl,hA⟩:∃ A x y B,O=A++x::y::B∧A.length=b:=by
  refine ⟨O.take b,O[b],O[b+1],O.drop (b+2),?_,by rw [yab];omega⟩
  rw [←yao,←yao,yag]
 have hg:gap (A++x::y::B) b=(x.2,y.1):=by
  rw [oJ hb]
  subst hA
  simp
 rw [hg,(Cu h).2]
 simp only [mZ,dG]
 omega
theorem xF.step {l O:List Sp} {m:Nat} (h:xF l m O) (hm:m<(cR l).length):∃ b,b+1<O.length∧xF l (m+1) (nO O (gap O b))∧gap O b=(bC (cR l))[m]'(by rw [aR.length_eq];exact hm):=by
 have hml:m<(bC (cR l)).length:=by rw [aR.length_eq];exact hm
 have hs:=h.srt
 rw [yao hml] at hs
 have hsr:SrL (bC (cR O)):=eF (nG (j3 h.vd))
 have hg:(bC (cR l))[m]∈cR O:=aR.mem_iff.1 (by rw [hs];exact yaz)
 obtain ⟨b,hb,he⟩:=yaJ.1 hg
 have hb2:=yaK.1 hb
 refine ⟨b,by omega,h.next (by omega) fun j hj hne=>?_,he⟩
 have hj2:gap O j∈bC (cR O):=aR.mem_iff.2 (yaJ.2 ⟨j,yaK.2 (by omega),rfl⟩)
 rw [hs] at hsr hj2
 rcases yar.1 hj2 with h1|h1
 ·exfalso
  rw [←he] at h1
  have ha:=j3 h.vd
  have hlen:(cR O).length=O.length-1:=fI
  have hget:∀ k (hk:k<(cR O).length),(cR O)[k]=gap O k:=fun k hk=>by simp [cR,w6]
  rcases Nat.lt_or_gt_of_ne hne with h2|h2
  ·have:=yaZ.1 ha j b (by omega) (by omega) h2
   rw [hget,hget,h1] at this
   omega
  ·have:=yaZ.1 ha b j (by omega) (by omega) h2
   rw [hget,hget,h1] at this
   omega
 ·rw [he]
  exact (yae.1 hsr).1 _ h1
theorem Ik {l:List Sp} (hl:Vd l):∀ m,m≤(cR l).length→∃ O,xF l m O∧tot O=tot l+tot ((bC (cR l)).take m)
 | 0,_=>⟨l,.zero hl,by simp [tot]⟩
 | m+1,hm=>by
  obtain ⟨O,h1,h2⟩:=Ik hl m (by omega)
  obtain ⟨b,hb,h3,h4⟩:=h1.step (by omega)
  refine ⟨_,h3,?_⟩
  have hml:m<(bC (cR l)).length:=by rw [aR.length_eq];omega
  rw [Kw h1.vd.1 hb,h2,yau,yai hml,mZ,h4]
  simp [tot]
  omega
theorem Vn {l:List Sp} (h:Sep l) (h2:∀ x,¬inS l x):l=[]:=by
 cases l with
 | nil=>rfl
 | cons s r =>
  have:=h.1 s (by simp)
  exact absurd (bP.2 (.inl ⟨yaR _,this⟩)) (h2 s.1)
theorem xU {a b:List Sp} (h:Sep a):fS a b=[]↔∀ x,inS a x→inS b x:=by
 constructor
 ·intro e x hx
  apply Classical.byContradiction
  intro hn
  have:=j0.2 ⟨hx,hn⟩
  rw [e] at this
  simp [inS] at this
 ·intro h1
  exact Vn (n7 h) fun x hx=>(j0.1 hx).2 (h1 x (j0.1 hx).1)
theorem Oq {l:List Sp} {n:Int} (hl:Vd l) (hn:1≤n):xD l n=0:=by
 unfold xD
 rw [if_neg]
 rintro (h|h)
 ·rw [p8.2 hl] at h;cases h
 ·omega
theorem Az {l:List Sp} {n:Int} (hl:Vd l) (hn:1≤n):xF l (nN l n) (nM l n)∧tot (nM l n)=tot l+tot ((bC (cR l)).take (nN l n))∧(nM l n).length≤n.toNat:=by
 have e:nM l n=ofS (l++(bC (cR l)).take (nN l n)):=by
  unfold nM;rw [if_neg (by rw [Oq hl hn];decide)]
 have hf:nN l n≤(cR l).length:=Nat.min_le_left _ _
 obtain ⟨O,h1,h2⟩:=Ik hl (nN l n) hf
 rw [e,←h1.ho]
 refine ⟨h1,h2,?_⟩
 have h3:=h1.len
 have h4:(cR l).length=l.length-1:=fI
 have h5:nN l n=min (cR l).length ((l.length:Int)-n).toNat:=rfl
 omega
theorem Rw {l:List Sp} {n:Int} (hl:Vd l) (hn:1≤n):fS l (nM l n)=[]:=by
 refine (xU hl.1).2 fun x hx=>?_
 rw [(Az hl hn).1.ho,vB]
 exact eR.2 (.inl hx)
theorem Ga {l T:List Sp} {n:Int} (hl:Vd l) (hn:1≤n) (hT:Sep T) (hTn:(T.length:Int)≤n) (hc:fS l T=[]):tot (nM l n)≤tot T:=by
 obtain ⟨h1,h2,h3⟩:=Az hl hn
 obtain ⟨C,c1,c2,c3⟩:=cover hT hl.1 ((xU hl.1).1 hc)
 rw [←mQ] at c1
 obtain ⟨C',p1,p2⟩:=List.exists_perm_sublist c1 (aR (l:=cR l)).symm
 have hsr:SrL (bC (cR l)):=eF (nG (j3 hl))
 have hm:nN l n≤C'.length:=by
  rw [p1.length_eq]
  have h4:(cR l).length=l.length-1:=fI
  have h5:nN l n=min (cR l).length ((l.length:Int)-n).toNat:=rfl
  omega
 have hgl:∀ s∈cR l,s.1≤s.2:=by
  intro s hs
  obtain ⟨i,hi,rfl⟩:=yaJ.1 hs
  have hi2:=yaK.1 hi
  rw [oJ (by omega)]
  have:=Lh hl.1 (show i<i+1 by omega) (by omega)
  simp only
  omega
 have h6:=pick p2 (hsr.imp fun {s t} h=>by unfold lt len at h;omega) (fun s hs=>hgl s (aR.mem_iff.1 hs)) hm
 rw [Kt p1] at h6
 omega
end Go.Fx.H
namespace Go.Fx.H
open Go Go.Fx Go.Proofs Go.Fx.R
set_option maxRecDepth 20000
theorem Yk (l:List Sp):Ok 41 [aL l] (Is (.b (vd l))):=by
 refine bU lw41 (by simp) ?_
 unfold c41
 simp -implicitDefEqProofs only [rX,aA,↓reduceIte,reduceCtorEq,cxN,aK]
 refine aD (acY l) ⟨⟨trivial,trivial⟩,⟨rfl,rfl⟩,trivial⟩ rfl trivial ?_
 simp -implicitDefEqProofs only [rX,↓reduceIte,aT,aX,wfV]
theorem sp1 {l:List Sp} {h:List Blk} {g:Nat→Option Nat}:aM h g [aL l]∧wkL [aL l] (aZ h g [aL l]):=⟨⟨trivial,trivial⟩,⟨rfl,rfl⟩,trivial⟩
theorem sp2 {l m:List Sp} {h:List Blk} {g:Nat→Option Nat}:aM h g [aL l,aL m]∧wkL [aL l,aL m] (aZ h g [aL l,aL m]):=⟨⟨trivial,trivial,trivial⟩,⟨rfl,rfl⟩,⟨rfl,rfl⟩,trivial⟩
theorem ok9 (S:S13) (l:List Sp) (m:Nat) (o:List Sp) (hm:m≤255):Ok 9 [aL l,.v (.int .u8 m),aL o] (Is (.b true)):=by
 refine bU lw9 (by simp) ?_
 unfold c9
 simp -implicitDefEqProofs only [rX,↓rY,aA,↓reduceIte,Nat.reduceEqDiff,Nat.reduceAdd,reduceCtorEq,cxN,aK]
 refine ⟨by simp only [lo,Fx.hi];omega,by simp only [lo,Fx.hi];omega,fun _=>?_⟩
 cases d1:decide (40<(l.length:Int)) with
 | true =>
  simp -implicitDefEqProofs only [↓rY]
  refine aD S ⟨trivial,trivial⟩ rfl trivial ?_
  simp -implicitDefEqProofs only [rX,↓reduceIte,aT,aX,wfV]
 | false =>
 have d1':=of_decide_eq_false d1
 simp -implicitDefEqProofs only [↓rY]
 refine aD (Yk l) sp1 rfl trivial ?_
 cases hv:vd l with
 | false =>
  simp -implicitDefEqProofs only [rX,↓rY,aA,↓reduceIte,Nat.reduceEqDiff]
  refine aD S ⟨trivial,trivial⟩ rfl trivial ?_
  simp -implicitDefEqProofs only [rX,↓reduceIte,aT,aX,wfV]
 | true =>
 have hV:Vd l:=p8.1 hv
 simp -implicitDefEqProofs only [rX,↓rY,aA,↓reduceIte,Nat.reduceEqDiff,reduceCtorEq]
 intro _
 cases d2:decide (1+(m:Int)<(o.length:Int)) with
 | true =>
  simp -implicitDefEqProofs only [↓rY]
  refine aD S ⟨trivial,trivial⟩ rfl trivial ?_
  simp -implicitDefEqProofs only [rX,↓reduceIte,aT,aX,wfV]
 | false =>
 have d2':=of_decide_eq_false d2
 simp -implicitDefEqProofs only [↓rY]
 refine aD (Yk o) sp1 rfl trivial ?_
 cases hv2:vd o with
 | false =>
  simp -implicitDefEqProofs only [rX,↓rY,↓reduceIte,Nat.reduceEqDiff]
  refine aD S ⟨trivial,trivial⟩ rfl trivial ?_
  simp -implicitDefEqProofs only [rX,↓reduceIte,aT,aX,wfV]
 | true =>
 have hO:Vd o:=p8.1 hv2
 have h1:(1:Int)≤1+(m:Int):=by omega
 obtain ⟨a1,a2,a3⟩:=Az hV h1
 have a4:=Rw hV h1
 have a5:vd (nM l (1+m))=true:=p8.2 a1.vd
 simp -implicitDefEqProofs only [rX,↓rY,↓reduceIte,Nat.reduceEqDiff,reduceCtorEq]
 refine aD (Yr l (1+m) (by omega) (by omega)) ⟨⟨trivial,trivial,trivial⟩,⟨rfl,rfl⟩,rfl,trivial⟩ rfl trivial ?_
 rw [Oq hV h1]
 have hlt:=Ga (T:=o) hV h1 hO.1 (by omega)
 have aV:=a1.vd
 generalize nM l (1+m)=A at *
 have d3:decide (1+(m:Int)<(A.length:Int))=false:=decide_eq_false (by omega)
 simp -implicitDefEqProofs only [rX,↓rY,aA,↓reduceIte,Nat.reduceEqDiff,aT,aX,wfV,bne_self_eq_false]
 intro _
 simp -implicitDefEqProofs only [↓rY,d3]
 refine aD (Vg A) sp1 rfl trivial ?_
 rw [a5]
 simp -implicitDefEqProofs only [rX,↓rY,↓reduceIte,Nat.reduceEqDiff,reduceCtorEq]
 refine aD (Vf l A hV aV) sp2 rfl trivial ?_
 rw [a4]
 simp -implicitDefEqProofs only [rX,↓rY,aA,↓reduceIte,Nat.reduceEqDiff,aT,aX,wfV,yaA,Int.lt_irrefl,decide_false]
 intro _
 refine aD S ⟨trivial,trivial⟩ rfl trivial ?_
 simp -implicitDefEqProofs only [rX,↓rY,↓reduceIte,Nat.reduceEqDiff,reduceCtorEq]
 refine aD (Vf l o hV hO) sp2 rfl trivial ?_
 simp -implicitDefEqProofs only [rX,↓rY,aA,↓reduceIte,Nat.reduceEqDiff,reduceCtorEq,aT,aX,wfV]
 intro _
 cases d4:decide (0<((fS l o).length:Int)) with
 | true=>simp -implicitDefEqProofs only [↓rY]
 | false =>
  have d4':=of_decide_eq_false d4
  have hnil:fS l o=[]:=List.length_eq_zero_iff.1 (by omega)
  simp -implicitDefEqProofs only [↓rY]
  refine aD (Yj o hO) sp1 rfl trivial ?_
  simp -implicitDefEqProofs only [rX,↓rY,↓reduceIte,Nat.reduceEqDiff]
  refine aD (Yj A aV) sp1 rfl trivial ?_
  have d5:decide (tot A≤tot o)=true:=decide_eq_true (hlt hnil)
  simp -implicitDefEqProofs only [rX,↓rY,↓reduceIte,Nat.reduceEqDiff,aT,aX,wfV,d5]
end Go.Fx.H
namespace Go.Fx.H
open Go Go.Fx Go.Proofs Go.Fx.R
set_option maxRecDepth 20000
theorem aaI {f:FuncId} {xs:List V} (h:Ok f xs (Is (.b true))):Fn Tryz.prog f xs [] [] (fun r _=>r=.b true):=(pH h fun r h' hr=>hr.1).2
abbrev tI:Fx.T:=.int .i64
abbrev Qb:Fx.T:=.sl 2 (.st [tI,tI])
theorem Ee {k:IntKind} {x:List V} (h:WfT (.int k) x):∃ n:Int,x=[.v (.int k n)]∧lo k≤n∧n≤hi k:=by
 simpa only [WfT] using h
theorem Gj {t:Fx.T} {ts:List Fx.T} {x:List V} (h:Bc (t::ts) x):∃ a b,x=a++b∧WfT t a∧Bc ts b:=by
 rwa [Bc.eq_2] at h
theorem exM {α β:Type} {g:α→β} {p:α→Prop}:∀ {els:List β},(∀ x∈els,∃ a,x=g a∧p a)→∃ l:List α,els=l.map g∧∀ a∈l,p a
 | [],_=>⟨[],rfl,by simp⟩
 | x::r,h=>by
  obtain ⟨a,rfl,ha⟩:=h x yaz
  obtain ⟨l,rfl,hl⟩:=exM (els:=r) fun y hy=>h y (yaw _ hy)
  exact ⟨a::l,rfl,fun b hb=>(yar.1 hb).elim (fun e=>e▸ha) (hl b)⟩
theorem Ww {x:V} (h:WfV (.int .u8) x):∃ n:Nat,x=.v (.int .u8 n)∧n≤255:=by
 obtain ⟨n,h1,h2,h3⟩:=Ee (show WfT (.int .u8) [x] from h)
 obtain ⟨k,rfl⟩:=Int.eq_ofNat_of_zero_le (show 0≤n from h2)
 refine ⟨k,by simpa using h1,?_⟩
 have:(k:Int)≤255:=h3
 omega
theorem Ps {x:List V} (h:WfT (.st [tI,tI]) x):∃ s:Sp,x=enS s:=by
 rw [WfT] at h
 obtain ⟨_,_,rfl,q0,h⟩:=Gj h
 obtain ⟨_,_,rfl,q1,h⟩:=Gj h
 rw [Bc.eq_1] at h
 subst h
 obtain ⟨n0,rfl,_⟩:=Ee q0
 obtain ⟨n1,rfl,_⟩:=Ee q1
 exact ⟨(n0,n1),rfl⟩
theorem Kf {x:V} (h:WfV Qb x):∃ l:List Sp,x=aL l:=by
 have h':WfT Qb [x]:=h
 rw [WfT] at h'
 obtain ⟨els,h1,_,he⟩:=h'
 obtain ⟨l,rfl,_⟩:=exM (g:=enS) (p:=fun _=>True) fun x hx=>(Ps (he x hx)).imp fun a e=>⟨e,trivial⟩
 exact ⟨l,by simpa using h1⟩
end Go.Fx.H
namespace Go.Proofs
open Go.Shelf
def Tryz.bldRen:Go.Shelf.Ren:=⟨fun|166=>74|240=>121|276=>157|169=>76|170=>75|n=>n,fun|0=>0|3=>3|4=>4|9=>9|20=>20|5=>5|37=>122|70=>121|72=>124|75=>126|76=>126|80=>129|164=>231|127=>187|n=>n,fun|n=>n⟩
theorem Tryz.bld166:Go.Proofs.Lays.n166 Tryz.prog Tryz.bldRen:={
 mixed:=by kernel_rfl
 f166:=Tryz.func74.trans (congrArg some (by kernel_rfl))
 f240:=Tryz.func121.trans (congrArg some (by kernel_rfl))
 f276:=Tryz.func157.trans (congrArg some (by kernel_rfl))
 t0:=Tryz.underlying0
 a0:=Tryz.isAgg0
 z0:=Tryz.sizeOf0
 v0:=Tryz.zeroValue0
 t3:=Tryz.underlying3
 a3:=Tryz.isAgg3
 z3:=Tryz.sizeOf3
 v3:=Tryz.zeroValue3
 t4:=Tryz.underlying4
 a4:=Tryz.isAgg4
 z4:=Tryz.sizeOf4
 v4:=Tryz.zeroValue4
 t9:=Tryz.underlying9
 a9:=Tryz.isAgg9
 z9:=Tryz.sizeOf9
 v9:=Tryz.zeroValue9
 t20:=Tryz.underlying20
 a20:=Tryz.isAgg20
 z20:=Tryz.sizeOf20
 v20:=Tryz.zeroValue20
 t37:=Tryz.underlying122
 a37:=Tryz.isAgg122
 z37:=Tryz.sizeOf122
 v37:=Tryz.zeroValue122
 t70:=Tryz.underlying121
 a70:=Tryz.isAgg121
 z70:=Tryz.sizeOf121
 v70:=Tryz.zeroValue121
 t72:=Tryz.underlying124
 a72:=Tryz.isAgg124
 z72:=Tryz.sizeOf124
 v72:=Tryz.zeroValue124
 t75:=Tryz.underlying126
 a75:=Tryz.isAgg126
 z75:=Tryz.sizeOf126
 v75:=Tryz.zeroValue126
 t164:=Tryz.underlying231
 a164:=Tryz.isAgg231
 z164:=Tryz.sizeOf231
 v164:=Tryz.zeroValue231 }
theorem Tryz.bld169:Go.Proofs.Lays.n169 Tryz.prog Tryz.bldRen:={
 mixed:=by kernel_rfl
 f169:=Tryz.func76.trans (congrArg some (by kernel_rfl))
 t0:=Tryz.underlying0
 a0:=Tryz.isAgg0
 z0:=Tryz.sizeOf0
 v0:=Tryz.zeroValue0
 t3:=Tryz.underlying3
 a3:=Tryz.isAgg3
 z3:=Tryz.sizeOf3
 v3:=Tryz.zeroValue3
 t9:=Tryz.underlying9
 a9:=Tryz.isAgg9
 z9:=Tryz.sizeOf9
 v9:=Tryz.zeroValue9
 t37:=Tryz.underlying122
 a37:=Tryz.isAgg122
 z37:=Tryz.sizeOf122
 v37:=Tryz.zeroValue122
 t70:=Tryz.underlying121
 a70:=Tryz.isAgg121
 z70:=Tryz.sizeOf121
 v70:=Tryz.zeroValue121
 t72:=Tryz.underlying124
 a72:=Tryz.isAgg124
 z72:=Tryz.sizeOf124
 v72:=Tryz.zeroValue124
 t127:=Tryz.underlying187
 a127:=Tryz.isAgg187
 z127:=Tryz.sizeOf187
 v127:=Tryz.zeroValue187 }
theorem Tryz.bld170:Go.Proofs.Lays.n170 Tryz.prog Tryz.bldRen:={
 mixed:=by kernel_rfl
 f170:=Tryz.func75.trans (congrArg some (by kernel_rfl))
 t0:=Tryz.underlying0
 a0:=Tryz.isAgg0
 z0:=Tryz.sizeOf0
 v0:=Tryz.zeroValue0
 t3:=Tryz.underlying3
 a3:=Tryz.isAgg3
 z3:=Tryz.sizeOf3
 v3:=Tryz.zeroValue3
 t37:=Tryz.underlying122
 a37:=Tryz.isAgg122
 z37:=Tryz.sizeOf122
 v37:=Tryz.zeroValue122
 t70:=Tryz.underlying121
 a70:=Tryz.isAgg121
 z70:=Tryz.sizeOf121
 v70:=Tryz.zeroValue121
 t72:=Tryz.underlying124
 a72:=Tryz.isAgg124
 z72:=Tryz.sizeOf124
 v72:=Tryz.zeroValue124 }
theorem Tryz.bldX:Builder.Extra Tryz.prog Tryz.bldRen:={
 sizeBuilder:=by kernel_rfl
 liesBuilder:=by kernel_rfl
 t5:=Tryz.underlying5
 a5:=Tryz.isAgg5
 z5:=Tryz.sizeOf5
 v5:=Tryz.zeroValue5
 infoByte:=by kernel_rfl
 cellsByte:=by kernel_rfl
 sizeByte:=by kernel_rfl
 neB5:=by decide }
end Go.Proofs
namespace Go.Fx.H
open Go Go.Fx Go.Proofs Go.RowKit
theorem x7 {w w':World} {ρ:Nat→Loc} {X:Nat→Prop} (hr:Rep ρ X w []) (h:Below w.heap.size w w'):Fr ρ w ρ w':=⟨h.os,h.tape,h.output,h.size,fun b hb ho=>⟨h.block b hb,ho⟩⟩
theorem uI {w w':World} {ρ:Nat→Loc} {X:Nat→Prop} (hr:Rep ρ X w []) (h:Below w.heap.size w w'):Rep ρ X w' [] :=
 ⟨hr.inj,hr.out,fun k b hk=>by simp at hk,hr.disj,fun k hk=>Nat.lt_of_lt_of_le (hr.lt k hk) h.size,hr.xfr (x7 hr h)⟩
theorem Om {w w':World} {ρ ρ':Nat→Loc} {X:Nat→Prop} (hr:Rep ρ X w []) (h:Fr ρ w ρ' w'):Below w.heap.size w w':=by
 have hown:∀ b,¬Own ρ b:=by
  rintro b ⟨k,hk,_⟩
  rw [hr.out k (yaj _)] at hk;cases hk
 exact ⟨h.os,h.tape,h.output,h.size,fun b hb=>(h.keep b hb (hown b)).1⟩
theorem yU {w:World} {ρ:Nat→Loc} {X:Nat→Prop}:∀ {t:Bs} {a:List Value},a7 ρ X w (us t) a→a=t.map fun c=>Value.int .u8 c.toNat
 | [],[],_=>rfl
 | [],_::_,h=>by simp only [us,List.map_nil,a7] at h
 | _::_,[],h=>by simp only [us,yba,a7] at h
 | c::r,v::a,h=>by
  simp only [us,yba,a7] at h
  have h3:v=.int .u8 c.toNat:=h.1
  have h4:a=r.map fun c=>Value.int .u8 c.toNat:=yU (ρ:=ρ) (X:=X) (w:=w) (t:=r) (a:=a) (by unfold us;exact h.2)
  rw [h3,h4];rfl
theorem Td {w w1:World} {ρ:Nat→Loc} {X:Nat→Prop} (hr:Rep ρ X w []) (hb:Below w.heap.size w w1) (t:Bs) (h:t.length≤100000000000) :
  Calls Tryz.prog 70 #[.string (sb t)] w1 fun e w2=>e=.returned (.agg ((dig t).map fun c=>Value.int .u8 c.toNat).toArray)∧Below w1.heap.size w1 w2:=by
 have hr1:=uI hr hb
 refine Calls.mono ((Vc t h).2 ρ X w1 [.string (sb t)] hr1 ⟨rfl,trivial⟩) ?_
 rintro e w2 ⟨val,r,h',ρ',rfl,⟨⟨rfl,rfl⟩,_⟩,hf,hr2,hv,_⟩
 refine ⟨?_,Om hr1 hf⟩
 obtain ⟨a,rfl,ha⟩:=hv
 have:=yU (t:=dig t) ha
 rw [←this]
end Go.Fx.H
namespace Go.Fx.H
open Go Go.Fx Go.Proofs Go.RowKit
set_option maxHeartbeats 4000000
set_option maxRecDepth 1000000
abbrev usV (t:Bs):List Value:=t.map fun c=>Value.int .u8 c.toNat
theorem Es {w:World} {ρ:Nat→Loc} {X:Nat→Prop}:∀ {t:Bs},a7 ρ X w (us t) (usV t)
 | []=>by simp only [us,List.map_nil,a7]
 | c::r=>by
  have h:=Es (ρ:=ρ) (X:=X) (w:=w) (t:=r)
  unfold us at h
  simp only [us,yba,a7]
  exact ⟨rfl,h⟩
theorem Ns {a b:Bs} (ha:a.length=16) (hb:b.length=16) (w:World):Sem.run Tryz.prog (Op.equalIn 10000 23 (.agg (usV a).toArray) (.agg (usV b).toArray)) w=.ok (a==b) w:=by
 have h1:a7 (fun _=>default) (fun _=>False) w (us a) (usV a).toArray.toList:=Es
 have h2:a7 (fun _=>default) (fun _=>False) w (us b) (usV b).toArray.toList:=Es
 have hK:=rU ha hb (K:=fun t=>t=(a==b))
 obtain ⟨t,ht,hrun⟩:=vE (P:=Tryz.prog) h1 h2 (d:=4) (D:=10000) (by omega) (t:=23) (ks:=(ybb 0 16).map fun i=>(i,.int .u8)) (K:=fun t=>t=(a==b)) (by kernel_rfl) (by kernel_rfl) (hK.mpr rfl)
 rw [hrun w,ht]
def pcs (a b:Bs) (s:Int) (o:Value):Array Value:=((a.map fun c=>Value.int .u8 c.toNat)++((b.map fun c=>Value.int .u8 c.toNat)++[.int .i64 s,o])).toArray
def Bx (B:Nat) (A A':List Value) (s:Int) (o:Value) (w:World):Prop:=w.rangeAt B 0 A∧w.rangeAt B 16 A'∧w.cell? ⟨B,32,none⟩=some (.int .i64 s)∧w.cell? ⟨B,33,none⟩=some o∧B<w.heap.size
theorem Bx.of {w:World} {a b:Bs} {s:Int} {o:Value} (ha:a.length=16) (hb:b.length=16):Bx w.heap.size (usV a) (usV b) s o (w.alloc (.cells (pcs a b s o) 43)).drew:=by
 have hbk:(w.alloc (.cells (pcs a b s o) 43)).drew.heap[w.heap.size]?=some (.cells (pcs a b s o) 43 (0,0)):=by
  show (w.heap.push _)[w.heap.size]?=_
  exact Array.getElem?_push_size
 have e0:((pcs a b s o).extract 0 (0+16)).toList=usV a:=by unfold pcs;simp [ha]
 have e1:((pcs a b s o).extract 16 (16+16)).toList=usV b:=by unfold pcs;simp [ha,hb]
 have e2:(pcs a b s o)[32]?=some (.int .i64 s):=by
  unfold pcs
  rw [ybv,yaH (by simp [ha]),yaH (by simp [ha,hb])]
  simp [ha,hb]
 have e3:(pcs a b s o)[33]?=some o:=by
  unfold pcs
  rw [ybv,yaH (by simp [ha]),yaH (by simp [ha,hb])]
  simp [ha,hb]
 refine ⟨?_,?_,?_,?_,?_⟩
 ·rw [←e0];exact World.rangeAt_of_block hbk 0 16
 ·rw [←e1];exact World.rangeAt_of_block hbk 16 16
 ·simp only [World.cell?,hbk];exact e2
 ·simp only [World.cell?,hbk];exact e3
 ·show w.heap.size<(w.heap.push _).size
  rw [Array.size_push];omega
theorem Bx.below {B:Nat} {A A':List Value} {s:Int} {o:Value} {w w':World} {n:Nat} (h:Bx B A A' s o w) (hb:Below n w w') (hn:B<n):Bx B A A' s o w':=by
 obtain ⟨h1,h2,h3,h4,h5⟩:=h
 refine ⟨fun j v hj=>?_,fun j v hj=>?_,?_,?_,Nat.lt_of_lt_of_le h5 hb.size⟩
 ·rw [hb.cell (p:=⟨B,0+j,none⟩) hn];exact h1 j v hj
 ·rw [hb.cell (p:=⟨B,16+j,none⟩) hn];exact h2 j v hj
 ·rw [hb.cell (p:=⟨B,32,none⟩) hn];exact h3
 ·rw [hb.cell (p:=⟨B,33,none⟩) hn];exact h4
theorem Jj {B b:Nat} {bs:List Value} {w:World} (h:Lib.IsBuilder 124 5 B b bs w) (ob:Obj):Lib.IsBuilder 124 5 B b bs (w.alloc ob):=by
 have one:∀ p,Lib.BuilderAt 124 5 B b p bs w→Lib.BuilderAt 124 5 B b p bs (w.alloc ob):=by
  intro p hp
  have hlt:=hp.lt
  obtain ⟨hB,v,hb,hown,hne⟩:=hp
  exact ⟨hB,v,by rw [Below.heap_alloc w ob b hlt];exact hb,hown.alloc ob,hne⟩
 exact h.imp (one _) (one _)
theorem Zz {B:Nat} {A A':List Value} {s:Int} {o:Value} {w w' w1:World} (h:w'.rangeAt B 0 A∧Bx B A A' s o w'∧Below B w w') (hb:Below w'.heap.size w' w1):w1.rangeAt B 0 A∧Bx B A A' s o w1∧Below B w w1:=by
 have h2:=h.2.1.below hb h.2.1.2.2.2.2
 exact ⟨h2.1,h2,h.2.2.trans (hb.mono (yaM h.2.1.2.2.2.2))⟩
theorem Zy {B:Nat} {A A':List Value} {s:Int} {o:Value} {W w w' w1:World} (h:w'.rangeAt B 16 A'∧Bx B A A' s o w'∧Below W.heap.size W w'∧Below w.heap.size w w') (hb:Below w'.heap.size w' w1):w1.rangeAt B 16 A'∧Bx B A A' s o w1∧Below W.heap.size W w1∧Below w.heap.size w w1:=by
 have h2:=h.2.1.below hb h.2.1.2.2.2.2
 exact ⟨h2.2.1,h2,h.2.2.1.trans (hb.mono h.2.2.1.size),h.2.2.2.trans (hb.mono h.2.2.2.size)⟩
theorem Vt {B:Nat} {A A':List Value} {s:Int} {o:Value} {W w w':World} (h:w'.rangeAt B 16 A'∧Bx B A A' s o w'∧Below W.heap.size W w'∧Below w.heap.size w w'):Below w.heap.size w w':=h.2.2.2
theorem Ry {w:World} {ρ:Nat→Loc} {X:Nat→Prop} (hr:Rep ρ X w []) (old a b:Bs) (s:Int) (l:List Op) (blk off:Nat) (pp:Option Addr) (cap:Nat) (h1:old.length≤100000) (ha:a.length=16) (hb:b.length=16) (hl:l.length≤100000) (hx:∀ x∈l,x.2.2.length≤100000) (hpp:l≠[]→pp=some ⟨blk,off,none⟩) (hop:∀ k (h:k<l.length),w.cell? ⟨blk,off+k*3,none⟩=some (.int .i64 l[k].1)∧w.cell? ⟨blk,off+k*3+1,none⟩=some (.int .i64 l[k].2.1)∧w.cell? ⟨blk,off+k*3+2,none⟩=some (.string (sb l[k].2.2))∧blk<w.heap.size) :
  Calls Tryz.prog 22 #[.string (sb old),.agg (pcs a b s (.slice pp l.length cap))] w fun e w'=>e=.returned (.tuple #[.string (sb (apR old a b s l)),.int .i64 (apE old a b s l)])∧Below w.heap.size w w':=by
 go_enter Tryz.func22,Tryz.ntmps22
 go_wp2
 have u23:=Tryz.underlying23
 have hbx:=Bx.of (w:=w) (s:=s) (o:=.slice pp l.length cap) ha hb
 generalize pcs a b s (.slice pp l.length cap)=C at *
 have hbe:Below w.heap.size w (w.alloc (.cells C 43)).drew:=((Below.refl _ w).alloc (yac _) _).drew
 have hdl:(dig old).length=16:=bM
 have heq:=fun w1=>Ns hdl ha w1
 have heq2:=fun (t:Bs) w1=>Ns (a:=dig t) bM hb w1
 have hdg2:∀ (t:Bs) w1,t.length≤65536→Below w.heap.size w w1→Calls Tryz.prog 70 #[.string (sb t)] w1 fun e w2=>e=.returned (.agg (usV (dig t)).toArray)∧Below w1.heap.size w1 w2:=fun t w1 ht hb=>Td hr hb t (by omega)
 have hal:(usV a).length=16:=by rw [yaN,ha]
 have hbl:(usV b).length=16:=by rw [yaN,hb]
 have hdg:∀ w1,Below w.heap.size w w1→Calls Tryz.prog 70 #[.string (sb old)] w1 fun e w2=>e=.returned (.agg (usV (dig old)).toArray)∧Below w1.heap.size w1 w2:=fun w1 hb=>Td hr hb old (by omega)
 generalize usV a=A at *
 generalize usV b=A' at *
 generalize usV (dig old)=D at *
 have i23:(Tryz.prog.info? 23).map (·.size)=some A.length:=by rw [hal];rfl
 go_region_held3 (fun w'=>w'.rangeAt w.heap.size 0 A∧Bx w.heap.size A A' s (.slice pp l.length cap) w'∧Below w.heap.size w w') (first|exact ⟨hbx.1,hbx,hbe⟩|exact Zz (by assumption) (by assumption))
  (first|(go_at_call 70;refine (hdg _ ?_).mono ?_;(first|assumption|(rename_i hs;exact hs.2.2));rintro e w1 ⟨rfl,hb1⟩))
 rename_i w1 hs
 obtain ⟨-,hb1,hbw⟩:=hs
 have hB0:=hb1.2.2.2.2
 have hfb:Below w1.heap.size w1 (w1.alloc (Obj.cells #[Value.pointer none,Value.slice none 0 0] 124)):=(Below.refl _ w1).alloc (yac _) _
 have c33:=(hb1.below hfb hB0).2.2.2.1
 by_cases hq:(!dig old==a)=true
 ·go_wp2
  ·go_ret2
   have h0:apE old a b s l=8:=by unfold apE;rw [if_pos (by simpa using hq)]
   have h9:apR old a b s l=[]:=by unfold apR;rw [if_pos (by rw [h0];decide)]
   rw [h0,h9]
   exact ⟨rfl,hbw⟩
  ·exfalso
   have hf:(!dig old==a)=false:=by assumption
   rw [hq] at hf;cases hf
 ·go_wp2
  have hdq:dig old=a:=by simpa using hq
  have hE0:apE old a b s l=match apN old l [] with
   | none=>3
   | some t=>if (t.length:Int)≠s then 3 else if dig t≠b then 8 else 0:=if_neg (by simp [hdq])
  have hwB:w.heap.size<w1.heap.size:=hB0
  have hqf:(!dig old==a)=false:=by simpa using hq
  rw [hqf]
  go_loopw [18] (fun i wr=>∃ (k:Nat) (o:Bs),i=.int .i64 k∧k≤l.length∧o.length≤65536∧apN old (l.drop k) o=apN old l []∧Lib.IsBuilder 124 5 w1.heap.size w1.heap.size (Lib.byteCells o) wr∧Below w1.heap.size w1 wr) (fun i _=>l.length-(Go.RowKit.intOf i).toNat)
  case atStart=>exact ⟨0,[],rfl,yaj _,by simp,rfl,Lib.fresh_isBuilder 124 5 w1,hfb⟩
  case round =>
   obtain ⟨k,o,rfl,hk,ho,hap,hI,hbwr⟩:=hrel
   by_cases hp:k<l.length
   ·rw [hpp (fun h=>by rw [h] at hp;exact Nat.not_lt_zero _ hp)]
    obtain ⟨p0,p1,p2,p3⟩:=hop k hp
    have hbb:=hbw.trans (hbwr.mono (yaM hwB))
    rw [←hbb.cell (p:=⟨blk,off+k*3,none⟩) p3] at p0
    rw [←hbb.cell (p:=⟨blk,off+k*3+1,none⟩) p3] at p1
    rw [←hbb.cell (p:=⟨blk,off+k*3+2,none⟩) p3] at p2
    rw [Ou hp] at hap
    have hxk:=hx _ (yal hp)
    have hpt:(k:Int)<(l.length:Int):=by omega
    generalize l[k]=x at *
    by_cases hbad:Ru old x
    ·rw [if_pos hbad] at hap
     have hap':none=apN old l []:=hap
     rw [←hap'] at hE0
     have hE3:apE old a b s l=3:=hE0
     have hR3:apR old a b s l=[]:=by unfold apR;rw [if_pos (by rw [hE3];decide)]
     have hend:∀ W,Below wr.heap.size wr W→Below w.heap.size w W:=fun W hW=>hbb.trans (hW.mono hbb.size)
     have hAl:Below wr.heap.size wr (wr.alloc (Obj.cells #[.int .i64 x.1,.int .i64 x.2.1,.string (sb x.2.2)] 109)):=(Below.refl _ wr).alloc (yac _) _
     have hAl2:=hend _ hAl
     rcases hbad with ⟨he,hbd⟩|⟨he,hbd⟩
     ·have hS:(sb x.2.2).toList=[]:=by rw [fG];exact he
      have hSz:((sb x.2.2).size:Int)=x.2.2.length:=rfl
      generalize sb x.2.2=S at *
      go_wp2_with fail
      all_goals (first|(go_ret2;exact ⟨rfl,hAl2⟩)|(exfalso;simp only [cC] at *;omega))
     ·have hS:¬(sb x.2.2).toList=[]:=by rw [fG];exact he
      have hS2:(sb x.2.2).toList.isEmpty=false:=by rw [ybw];exact hS
      generalize sb x.2.2=S at *
      go_wp2_with fail
      all_goals (first|(go_ret2;exact ⟨rfl,hend _ ((Below.refl _ wr).alloc (yac _) _)⟩)|skip)
    ·rw [if_neg hbad] at hap
     have hI2:=Jj hI (Obj.cells #[.int .i64 x.1,.int .i64 x.2.1,.string (sb x.2.2)] 109)
     have hA109:Below w1.heap.size w1 (wr.alloc (Obj.cells #[.int .i64 x.1,.int .i64 x.2.1,.string (sb x.2.2)] 109)):=hbwr.alloc hbwr.size _
     have hout:(gN old x).length≤100000:=by
      unfold gN
      split
      ·simp;omega
      ·exact hxk
     by_cases he:x.2.2=[]
     ·have hoe:gN old x=(old.take x.2.1.toNat).drop x.1.toNat:=if_pos he
      have hnb:0≤x.1∧x.1<x.2.1∧x.2.1≤old.length:=by
       have:¬(x.1<0∨x.1≥x.2.1∨x.2.1>old.length):=fun h=>hbad (.inl ⟨he,h⟩)
       omega
      have hS:(sb x.2.2).toList=[]:=by rw [fG];exact he
      have hn1:=hnb.1
      have hn2:x.1≤x.2.1:=by omega
      have hn3:x.2.1≤((sb old).size:Int):=hnb.2.2
      have hn4:=hnb.2.1
      have hsx:(sb old).extract x.1.toNat x.2.1.toNat=sb (gN old x):=by rw [iN,hoe]
      clear hnb hoe
      generalize sb x.2.2=S at *
      go_wp2_with (go_at_call 74;refine (Any.Builder_WriteString Tryz.bld166 Tryz.bldX _ _ _ _ _ hI2 ?_ hA109.size).mono ?_)
      ·rw [Lib.byteCells_length];show o.length+(gN old x).length≤_;omega
      rintro e W1 ⟨rfl,h1b,b1⟩
      have hI3:Lib.IsBuilder 124 5 w1.heap.size w1.heap.size (Lib.byteCells (o++gN old x)) W1:=.inr (by rw [Lib.byteCells_append];exact h1b)
      have hB3:Below w1.heap.size w1 W1:=hA109.trans b1
      go_wp2_with (go_at_call 75;refine (Any.Builder_Len Tryz.bld170 _ _ _ _ hI3).mono ?_)
      rintro e W2 ⟨rfl,rfl⟩
      have hlo:((o++gN old x).length:Int)=(o.length:Int)+((gN old x).length:Int):=by rw [yaa];omega
      by_cases h65:65536<(o++gN old x).length
      ·rw [if_pos h65] at hap
       have hap':none=apN old l []:=hap
       rw [←hap'] at hE0
       have hE3:apE old a b s l=3:=hE0
       have hR3:apR old a b s l=[]:=by unfold apR;rw [if_pos (by rw [hE3];decide)]
       go_wp2
       ·go_ret2
        rw [hE3,hR3]
        exact ⟨rfl,hbw.trans (hB3.mono (yaM hwB))⟩
       ·exfalso;have h3:=Lib.byteCells_length (o++gN old x);omega
      ·rw [if_neg h65] at hap
       go_wp2
       ·exfalso;have h3:=Lib.byteCells_length (o++gN old x);omega
       ·go_roundw
        case rel=>exact ⟨k+1,o++gN old x,by simp,by omega,by omega,hap,hI3,hB3⟩
        case measure=>simp only [Go.RowKit.intOf];omega
     ·have hoe:gN old x=x.2.2:=if_neg he
      have h0:x.1=0∧x.2.1=0:=by
       have:¬(x.1≠0∨x.2.1≠0):=fun h=>hbad (.inr ⟨he,h⟩)
       omega
      have hS:¬(sb x.2.2).toList=[]:=by rw [fG];exact he
      have hS2:(sb x.2.2).toList.isEmpty=false:=by rw [ybw];exact hS
      obtain ⟨h01,h02⟩:=h0
      rw [←hoe] at hS hS2 hI2 hA109 p2
      rw [h01] at hI2 hA109 p0
      rw [h02] at hI2 hA109 p1
      clear hoe
      go_wp2_with (go_at_call 74;refine (Any.Builder_WriteString Tryz.bld166 Tryz.bldX _ _ _ _ _ hI2 ?_ hA109.size).mono ?_)
      ·rw [Lib.byteCells_length];show o.length+(gN old x).length≤_;omega
      rintro e W1 ⟨rfl,h1b,b1⟩
      have hI3:Lib.IsBuilder 124 5 w1.heap.size w1.heap.size (Lib.byteCells (o++gN old x)) W1:=.inr (by rw [Lib.byteCells_append];exact h1b)
      have hB3:Below w1.heap.size w1 W1:=hA109.trans b1
      go_wp2_with (go_at_call 75;refine (Any.Builder_Len Tryz.bld170 _ _ _ _ hI3).mono ?_)
      rintro e W2 ⟨rfl,rfl⟩
      have hlo:((o++gN old x).length:Int)=(o.length:Int)+((gN old x).length:Int):=by rw [yaa];omega
      by_cases h65:65536<(o++gN old x).length
      ·rw [if_pos h65] at hap
       have hap':none=apN old l []:=hap
       rw [←hap'] at hE0
       have hE3:apE old a b s l=3:=hE0
       have hR3:apR old a b s l=[]:=by unfold apR;rw [if_pos (by rw [hE3];decide)]
       go_wp2
       ·go_ret2
        rw [hE3,hR3]
        exact ⟨rfl,hbw.trans (hB3.mono (yaM hwB))⟩
       ·exfalso;have h3:=Lib.byteCells_length (o++gN old x);omega
      ·rw [if_neg h65] at hap
       go_wp2
       ·exfalso;have h3:=Lib.byteCells_length (o++gN old x);omega
       ·go_roundw
        case rel=>exact ⟨k+1,o++gN old x,by simp,by omega,by omega,hap,hI3,hB3⟩
        case measure=>simp only [Go.RowKit.intOf];omega
   ·have hke:k=l.length:=by omega
    subst hke
    rw [List.drop_length] at hap
    have hap':some o=apN old l []:=hap
    rw [←hap'] at hE0
    simp only at hE0
    go_wp2_with (go_at_call 76;refine (Any.Builder_String_any_f Tryz.bld169 Tryz.bldX _ _ o _ (Lib.IsBuilderF.of hI) hbwr.size).mono ?_)
    rintro e W1 ⟨rfl,hF,b1⟩
    have hB3:Below w1.heap.size w1 W1:=hbwr.trans b1
    have hbx1:=hb1.below hB3 hB0
    have c32:=hbx1.2.2.1
    have hbw1:Below w.heap.size w W1:=hbw.trans (hB3.mono (yaM hwB))
    have hs1:W1.drew.rangeAt w.heap.size 16 A'∧Bx w.heap.size A A' s (.slice pp l.length cap) W1.drew∧Below W1.heap.size W1 W1.drew∧Below w.heap.size w W1.drew:=⟨(hbx1.below ((Below.refl W1.heap.size W1).drew) hbx1.2.2.2.2).2.1,hbx1.below ((Below.refl W1.heap.size W1).drew) hbx1.2.2.2.2,(Below.refl _ _).drew,hbw1.drew⟩
    have heq3:=heq2 o
    have hdg3:=fun w'=>hdg2 o w' ho
    generalize usV (dig o)=D3 at *
    have i23':(Tryz.prog.info? 23).map (·.size)=some A'.length:=by rw [hbl];rfl
    go_wp2
    ·have hne:(o.length:Int)≠s:=by
      have hn:¬(((({ data:=ybl o }:ByteArray).size:Nat):Int)=s):=by first|assumption|(simp only [cC] at *;assumption)|(simp at *;assumption)
      exact hn
     rw [if_pos hne] at hE0
     have hR3:apR old a b s l=[]:=by unfold apR;rw [if_pos (by rw [hE0];decide)]
     go_ret2
     rw [hE0,hR3]
     exact ⟨rfl,hbw1⟩
    ·show Code.wp _ _ _ _ _
     go_region_held3 (fun w'=>w'.rangeAt w.heap.size 16 A'∧Bx w.heap.size A A' s (.slice pp l.length cap) w'∧Below W1.heap.size W1 w'∧Below w.heap.size w w') (first|exact hs1|exact Zy (by assumption) (by assumption))
      (first|(go_at_call 70;refine (hdg3 _ ?_).mono ?_;(exact Vt (by assumption));rintro e w1 ⟨rfl,hb1⟩))
     rename_i W2 hs2
     obtain ⟨-,-,hb2,hbw2⟩:=hs2
     by_cases hq2:(!dig o==b)=true
     ·go_wp2
      ·have hs2:(o.length:Int)=s:=by
        have hn:(((({ data:=ybl o }:ByteArray).size:Nat):Int)=s):=by first|assumption|(simp only [cC] at *;assumption)|(simp at *;assumption)
        exact hn
       have hdb:dig o≠b:=by simpa using hq2
       rw [if_neg (by simpa using hs2),if_pos hdb] at hE0
       have hR8:apR old a b s l=[]:=by unfold apR;rw [if_pos (by rw [hE0];decide)]
       go_ret2
       rw [hE0,hR8]
       exact ⟨rfl,hbw2⟩
      ·exfalso
       have hf:(!dig o==b)=false:=by assumption
       rw [hq2] at hf;cases hf
     ·have hqf2:(!dig o==b)=false:=by simpa using hq2
      have hF2:=hF.below hb2
      have hdb:dig o=b:=by simpa using hqf2
      have hR0:apE old a b s l=0→apR old a b s l=o:=by
       intro h
       unfold apR
       rw [if_neg (by rw [h];decide),←hap']
       rfl
      have hs2:(o.length:Int)=s:=by
       have hn:(((({ data:=ybl o }:ByteArray).size:Nat):Int)=s):=by first|assumption|(simp only [cC] at *;assumption)|(simp at *;assumption)
       exact hn
      rw [if_neg (by simpa using hs2),if_neg (by simp [hdb])] at hE0
      go_wp2_with (go_at_call 76;refine (Any.Builder_String_any_f Tryz.bld169 Tryz.bldX _ _ o _ hF2 (ybf hB3.size hb2.size)).mono ?_)
      rintro e W3 ⟨rfl,hF3,b3⟩
      go_wp2
      all_goals go_ret2
      rw [hR0 hE0,hE0]
      exact ⟨rfl,hbw2.trans (b3.mono (ybf (yaM hwB) (yac _)))⟩
end Go.Fx.H
