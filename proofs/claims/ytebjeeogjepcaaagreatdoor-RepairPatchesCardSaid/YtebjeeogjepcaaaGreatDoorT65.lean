import Derived.Test.YtebjeeogjepcaaaGreatDoorHLow0
import Derived.Test.YtebjeeogjepcaaaGreatDoorHLow
import Derived.Test.YtebjeeogjepcaaaGreatDoorT26
import Derived.Shelf.Lay
import Derived.Shelf.LaySoft
import Derived.Shelf.Strings.Builder1
import Derived.Shelf.Strings.BuilderF
import Derived.Shelf.Strings.BuilderK
import Derived.Test.YtebjeeogjepcaaaGreatDoorProg
import Derived.WalkKit
import Derived.BigCall
import Derived.Deep.RegionHeld3
import Derived.Shelf.Strings.MapGrows
set_option linter.unusedVariables false
set_option linter.unusedSimpArgs false
set_option linter.unusedSectionVars false
open List renaming length_append → yaa, length_take → yac, take_of_length_le → yad, take_append_drop → yae, append_assoc → yaf, getElem?_eq_getElem → yah, take → yai, getElem_mem → yaj, drop_of_length_le → yak, getElem_map → yal, getElem_append_right → yam, drop → yao, length_singleton → yap, pairwise_cons → yaq, length_drop → yar, pairwise_append → yas, drop_eq_getElem_cons → yat, take_add_one → yav, getElem_append_left → yaw, append_nil → yax, mem_append → yay, getElem?_append_right → yaz, mem_cons → yaA, drop_append_of_le_length → yaB, eq_nil_of_length_eq_zero → yaC, mem_cons_self → yaD, mem_cons_of_mem → yaE, set_append_right → yaF, nil_append → yaG, take_sublist → yaH, take_append_of_le_length → yaI, map_append → yaJ, cons_append → yaK, length_map → yaM, drop_sublist → yaP, take_length → yaR, eq_nil_or_concat → yaV, concat_eq_append → yaW, range' → yaX, length_dropLast → yba, replicate_succ → ybc, length → ybd, length_cons → ybe, getLast?_append → ybg, map_cons → ybi, toArray → ybj, getLastD_eq_getLast? → ybk, getLast?_eq_getElem? → ybl, dropLast_eq_take → ybm, mem_of_mem_take → ybn, perm_append_comm → ybo, getD_eq_getElem?_getD → ybp, pairwise_iff_getElem → ybq, getLast?_singleton → ybr, dropLast_concat → ybs, take_succ_cons → ybt, getElem?_toArray → ybu, isEmpty_eq_false_iff → ybv, mem_append_left → ybw
open Nat renaming le_refl → yab, zero_le → yag, eq_zero_or_pos → yau, le_of_lt → yaL, strongRecOn → yaN, not_lt_zero → yaQ, lt_or_ge → yaU, sub_zero → yaZ, le_trans → ybb, reduceSub → ybh
open Int renaming toNat_natCast → yan, natCast_zero → yaO, le_refl → ybf
open Bool renaming not_false → yaS, not_true → yaT
open Option renaming getD_some → yaY
namespace Go.Fx.H
open Go Go.Fx Go.Proofs
def c81a:LCode :=
 (.seq
 (.reg 0 [
 ⟨(some 13),.mov (.tmp 2),none⟩,
 ⟨(some 14),.bin .lss false (.tmp 13) (.const (.int .i64 1)),none⟩,
 ⟨(some 15),.mov (.tmp 14),none⟩,
 ⟨(some 16),.mov (.tmp 2),(some (15,false))⟩,
 ⟨(some 17),.bin .gtr false (.tmp 16) (.const (.int .i64 1099511627776)),(some (15,false))⟩,
 ⟨(some 18),.pick (.tmp 15) (.const (.bool true)) (.tmp 17),none⟩,
 ⟨(some 19),.mov (.tmp 18),none⟩,
 ⟨(some 20),.mov (.tmp 1),(some (19,false))⟩,
 ⟨(some 21),.bin .lss false (.tmp 20) (.const (.int .i64 0)),(some (19,false))⟩,
 ⟨(some 22),.pick (.tmp 19) (.const (.bool true)) (.tmp 21),none⟩,
 ⟨(some 23),.mov (.tmp 22),none⟩,
 ⟨(some 24),.mov (.tmp 1),(some (23,false))⟩,
 ⟨(some 25),.mov (.tmp 2),(some (23,false))⟩,
 ⟨(some 26),.bin .geq false (.tmp 24) (.tmp 25),(some (23,false))⟩,
 ⟨(some 27),.pick (.tmp 23) (.const (.bool true)) (.tmp 26),none⟩])
 (.cond (.tmp 27)
 (.seq
 (.reg 0 [
 ⟨none,.store 1 (.tmp 10) (.const (.bool false)),none⟩])
 .ret)
 .skip))
def c81b:LCode :=
 (.seq
 (.reg 1 [
 ⟨(some 12),.alloc 0 (.nilFunc),none⟩])
 (.seq
 (.reg 0 [
 ⟨(some 32),.fn 125 [(.tmp 5),(.tmp 11),(.tmp 12)],none⟩,
 ⟨none,.store 1 (.tmp 12) (.tmp 32),none⟩])
 (.seq
 (.tree 0
 (.take 0 [3,5,6] ⟨(some 33),.load none (.tmp 12),none⟩
 (.take 1 [3,5,6] ⟨(some 34),.mov (.tmp 1),none⟩
 (.take 2 [3,5,6] ⟨(some 35),.mov (.tmp 2),none⟩
 (.alt 3 ⟨(some 36),.callv (.tmp 33) [(.tmp 34),(.tmp 35)],none⟩ false
 (.take 4 [5,6] ⟨(some 37),.load (some 16) (.tmp 9),none⟩
 (.take 5 [6] ⟨(some 38),.prim (.aeq false ((yaX 0 16).map fun i=>(i,(.int .u8)))) [(.tmp 36),(.tmp 37)],none⟩
 (.alt 6 ⟨none,.store 1 (.tmp 10) (.tmp 38),none⟩ false
 .done
 .none)))
 (.alt 4 ⟨(some 37),.load (some 16) (.tmp 9),none⟩ true
 (.alt 3 ⟨(some 36),.callv (.tmp 33) [(.tmp 34),(.tmp 35)],none⟩ false
 (.take 5 [6] ⟨(some 38),.prim (.aeq false ((yaX 0 16).map fun i=>(i,(.int .u8)))) [(.tmp 36),(.tmp 37)],none⟩
 (.alt 6 ⟨none,.store 1 (.tmp 10) (.tmp 38),none⟩ false
 .done
 .none))
 .none)
 .none))))))
 .ret)))
def c81:LDf:=.seq ((.reg 3 [ ⟨(some 5),.box 0 (.tmp 0),none⟩,⟨(some 9),.box 1 (.tmp 4),none⟩,⟨(some 10),.alloc 2 (.bool false),none⟩])) (.seq c81a (.seq ((.reg 2 [ ⟨(some 28),.mov (.tmp 3),none⟩,⟨(some 29),.build [.slice none 0 0,.bool false] [(0,1,(.tmp 28))],none⟩,⟨(some 30),.box 0 (.tmp 29),none⟩,⟨(some 11),.alloc 1 (.pointer none),none⟩,⟨none,.store 1 (.tmp 11) (.tmp 30),none⟩])) (.dfr 0 [⟨(some 31),.load none (.tmp 11),none⟩] 124 [(.tmp 31),(.tmp 10)] c81b)))
def c124:List aP:=[ ⟨(some 4),.mov (.tmp 1),none⟩,⟨(some 5),.mov (.tmp 1),none⟩,⟨(some 6),.nilc (.tmp 5),none⟩,⟨(some 7),.load none (.tmp 6),none⟩,⟨(some 8),.mov (.tmp 7),none⟩,⟨(some 9),.mov (.tmp 0),(some (8,true))⟩,⟨(some 10),.nilc (.tmp 9),(some (8,true))⟩,⟨(some 11),.fld 1 (.tmp 10),(some (8,true))⟩,⟨(some 12),.load none (.tmp 11),(some (8,true))⟩,⟨(some 13),.not (.tmp 12),(some (8,true))⟩,⟨(some 14),.pick (.tmp 8) (.tmp 13) (.const (.bool false)),none⟩,⟨(some 15),.mov (.tmp 14),none⟩,⟨(some 16),.mov (.tmp 0),(some (15,true))⟩,⟨(some 17),.nilc (.tmp 16),(some (15,true))⟩,⟨(some 18),.fld 0 (.tmp 17),(some (15,true))⟩,⟨(some 19),.load none (.tmp 18),(some (15,true))⟩,⟨(some 20),.len (.tmp 19),(some (15,true))⟩,⟨(some 21),.bin .eql false (.tmp 20) (.const (.int .i64 0)),(some (15,true))⟩,⟨(some 22),.pick (.tmp 15) (.tmp 21) (.const (.bool false)),none⟩,⟨(some 23),.nilc (.tmp 4),none⟩,⟨none,.store 1 (.tmp 23) (.tmp 22),none⟩]
theorem lw81:Uf Tryz.prog 81 c81=some (c81,[.cell 10 none],39):=by kernel_rfl
theorem lw124:Ue Tryz.prog 124 c124=some (c124,[],24):=by kernel_rfl
end Go.Fx.H
namespace Go.Fx.H
open Go Go.Fx Go.Proofs Go.Fx.R
set_option maxRecDepth 20000
theorem Tq {h:List Blk} {K:V→Prop} {z:Nat} {sz:Nat} {els:List (List V)} {a u m:Option Int}:pW h z (.ro sz els) a u m K=(sz=z∧cQ els.length a u m∧K (roF sz u m els.length ((els.drop (a.getD 0).toNat).take ((u.getD els.length).toNat-(a.getD 0).toNat)))):=rfl
theorem abZ {h:List Blk} {l:List Bs} {K:V→Prop} {k:Nat} (hk:k<l.length) (hK:K (rD (l.take k))):pW h 16 (rD l) none (some (k:Int)) (some (k:Int)) K:=by
 rw [Tq]
 refine ⟨rfl,?_,?_⟩
 ·simp only [cQ,yaY,Option.getD_none,yaM];omega
 ·have hne:¬((k:Int)=((l.map us).length:Int)):=by rw [yaM];omega
  simp only [roF,hne,and_false,if_false,yaY,Option.getD_none]
  rw [show Int.toNat 0=0 from rfl,List.drop_zero,yan,yaZ,←List.map_take]
  exact hK
theorem abR:[V.v (Value.int IntKind.u8 0),V.v (Value.int IntKind.u8 0),V.v (Value.int IntKind.u8 0),V.v (Value.int IntKind.u8 0),V.v (Value.int IntKind.u8 0),V.v (Value.int IntKind.u8 0),V.v (Value.int IntKind.u8 0),V.v (Value.int IntKind.u8 0),V.v (Value.int IntKind.u8 0),V.v (Value.int IntKind.u8 0),V.v (Value.int IntKind.u8 0),V.v (Value.int IntKind.u8 0),V.v (Value.int IntKind.u8 0),V.v (Value.int IntKind.u8 0),V.v (Value.int IntKind.u8 0),V.v (Value.int IntKind.u8 0)]=us z16:=w16
theorem Ot:lB=z16:=by unfold lB z16;rfl
theorem Yw (l:List Bs) (s:Bool) (hD:D16 l) (hl:l.length≤1000000000):OkN Tryz.prog 126 [.ptr 0 0 0] [.var [rD l,.b s]] [] (IsA (.agg (us (l.getLastD lB))) [.var [rD l.dropLast,.b (s||l.isEmpty)]]):=by
 refine fR pol [0] lw126 (by simp) ⟨trivial,trivial⟩ (fun k hk hm=>by simp at hk ⊢;omega) ?_
 unfold c126
 obtain ⟨z1,z2,z3⟩:=fN cR
 simp -implicitDefEqProofs only [rX,↓rY,aA,cells?,splice,↓reduceIte,Nat.reduceEqDiff,Nat.reduceAdd,reduceCtorEq,aD,bV,aV,a6,leH,leB,leV,dC,aC,aB,wfB,wfV,wfL,isC,Nat.reduceLeDiff,yal,cxN,aL,w16,abR,z1,z2,z3,iT,dW,bP]
 intro hm
 simp only [br,beq_iff_eq,beq_eq_false_iff_ne]
 refine ⟨fun h1=>?_,fun h1=>?_⟩
 ·have:l=[]:=yaC (by omega)
  subst this
  exact ⟨⟨rfl,by simp⟩,by rw [←Ot];rfl⟩
 ·have hl1:0<l.length:=by omega
  have e1:(l.length:Int)-1=((l.length-1:Nat):Int):=by omega
  have hk:((l.length:Int)-1).toNat<l.length:=by omega
  have hx:l[((l.length:Int)-1).toNat]'hk=l.getLastD lB:=by
   rw [ybk,ybl,yah (by omega)]
   simp only [yaY]
   congr 1
   omega
  have hd:(l.getLastD lB).length=16:=by rw [←hx];exact hD _ (yaj hk)
  obtain ⟨u1,u2,u3⟩:=fN hd
  refine ⟨by simp only [lo,Fx.hi];omega,by omega,hk,?_⟩
  simp only [hx,u1,u2,iT,z3,yax]
  rw [e1]
  refine ⟨yab _,trivial,trivial,by simp only [lo,Fx.hi];omega,by simp only [lo,Fx.hi];omega,abZ (by omega) ?_⟩
  simp -implicitDefEqProofs only [rX,↓rY,leV,dC,isC,dW]
  rw [ybm]
  have:l.isEmpty=false:=by cases l with|nil=>simp at hl1|cons _ _=>rfl
  simp [this]
theorem Yy (l:List Bs) (s ok:Bool) (hl:l.length≤1000000000):CD0 Tryz.prog 124 [.ptr 0 0 0,.ptr 1 0 0] [.var [rD l,.b s],.var [.b ok]] [] (IsA (.tup []) [.var [rD l,.b s],.var [.b (ok&&!s&&l.isEmpty)]]):=by
 refine Wb [0,1] lw124 (by simp) ⟨trivial,trivial,trivial⟩ (fun k hk hm=>by simp at hk ⊢;omega) ?_
 unfold c124
 simp -implicitDefEqProofs only [rX,↓rY,aA,cells?,splice,↓reduceIte,Nat.reduceEqDiff,Nat.reduceAdd,reduceCtorEq,aV,a6,leH,leB,leV,dC,aC,aB,wfB,wfV,wfL,isC,cxN,aL,bP]
 cases ok<;>cases s<;>simp [br]
 intro _
 cases l<;>simp
 omega
abbrev hC (x:Bs) (l:List Bs) (s:Bool):List Blk:=[.var (us x),.var [.ptr 3 0 0],.var [.clo 125 [.ptr 0 0 0,.ptr 1 0 0,.ptr 2 0 0]],.var [rD l,.b s]]
def nD (l:List Bs) (d:Nat):List Bs:=l.take (l.length-d)
def nX (l:List Bs) (s:Bool) (d:Nat):Bool:=s||decide (l.length<d)
theorem Lj {l:List Bs} {d:Nat}:nD l.dropLast d=nD l (d+1):=by
 unfold nD
 rw [ybm,List.take_take];congr 1;simp;omega
theorem Li {l:List Bs} {s:Bool} {d:Nat}:nX l.dropLast (s||l.isEmpty) d=nX l s (d+1):=by
 unfold nX
 cases s with
 | true=>simp
 | false =>
  cases l with
  | nil=>simp
  | cons x r=>simp [yba]
theorem D16.dropLast {l:List Bs} (h:D16 l):D16 l.dropLast:=fun d hd=>h d (List.dropLast_subset l hd)
theorem Zj {l:List Bs} (h:D16 l):(l.getLastD lB).length=16:=by
 rw [ybk]
 cases hl:l.getLast? with
 | none=>rfl
 | some x=>exact h x (List.mem_of_getLast? hl)
theorem Fc:∀ (n:Nat) (x:Bs) (i:Nat) (l:List Bs),x.length=16→(cl x i n l).length=16:=by
 intro n x i l hx
 by_cases h2:2≤n
 ·by_cases hi:i<spl n
  ·rw [Nu h2 hi];exact lK
  ·rw [Hw h2 hi];exact lK
 ·rw [Ag h2];exact hx
def c125r:LCode:=sqR (sqR (sqR c125))
theorem c125_eq:c125=.seq (sqL c125) (.seq (sqL (sqR c125)) (.seq (sqL (sqR (sqR c125))) c125r)):=rfl
theorem Yx:∀ (n:Nat) (x:Bs) (i:Nat) (l:List Bs) (s:Bool),1≤n→i<n→x.length=16→D16 l→l.length≤1000000000→n≤1152921504606846976 →
  OkN Tryz.prog 125 [.i i,.i n,.ptr 0 0 0,.ptr 1 0 0,.ptr 2 0 0] (hC x l s) [] (IsA (.agg (us (cl x i n l))) (hC x (nD l (dep i n)) (nX l s (dep i n)))):=by
 intro n
 induction n using yaN with
 | ind n ih =>
  intro x i l s h1 hi hx hD hl hn
  refine fR pol [0,1,2,3] lw125 (by simp) ⟨trivial,trivial,trivial,trivial,trivial⟩ (fun k hk hm=>by simp at hk ⊢;omega) ?_
  obtain ⟨z1,z2,z3⟩:=fN cR
  obtain ⟨x1,x2,x3⟩:=fN hx
  by_cases h2:2≤n
  ·have hs:=fG h2
   have hd:=Zj hD
   obtain ⟨d1,d2,d3⟩:=fN hd
   have rest:∀ (e:Env) (b:Nat),get e 0=.i i→get e 1=.i n→get e 4=.ptr 2 0 0→get e 7=.ptr 4 0 0→get e 8=.i (spl n)→get e 9=.ptr 5 0 0 →
     aw (cxN Tryz.prog [0,1,2,3]) c125r (eK [0,1,2,3] 4 [fE.cell 7 (some 16)] (IsA (.agg (us (cl x i n l))) (hC x (nD l (dep i n)) (nX l s (dep i n))))) (fun _ _=>False) (eK [0,1,2,3] 4 [fE.cell 7 (some 16)] (IsA (.agg (us (cl x i n l))) (hC x (nD l (dep i n)) (nX l s (dep i n))))) ⟨e,hC x l.dropLast (s||l.isEmpty)++[.var (us z16),.var (us (l.getLastD lB))],b⟩:=by
    intro e b g0 g1 g4 g7 g8 g9
    unfold c125r
    simp -implicitDefEqProofs only [rX,↓rY,c125,sqR,rdK,↓reduceIte,Nat.reduceEqDiff,Nat.reduceAdd,reduceCtorEq,cxN,hC,g0,g1,g4,g8,g9,d1,d2]
    simp only [br,decide_eq_true_eq,decide_eq_false_iff_not]
    refine ⟨fun hi2=>?_,fun hi2=>?_⟩
    ·have hc:=ih (spl n) (by omega) x i l.dropLast (s||l.isEmpty) (by omega) (by omega) hx hD.dropLast (by simp;omega) (by omega)
     rw [Lj,Li,←Ex h2 (by omega)] at hc
     have hcl:=Fc (spl n) x i l.dropLast hx
     obtain ⟨w1,w2,w3⟩:=fN (lK (a:=cl x i (spl n) l.dropLast) (b:=l.getLastD lB))
     rw [Nu h2 (by omega)]
     refine ⟨?_,?_⟩
     all_goals
      refine eF [0,1,2,3] _ (.agg (us (cl x i (spl n) l.dropLast))) (.agg (us (cl x i (spl n) l.dropLast))) (hC x l.dropLast (s||l.isEmpty)) _ (hC x (nD l (dep i n)) (nX l s (dep i n))++[.var (us z16),.var (us (l.getLastD lB))]) hc (by simp) (by simp [blk,bO,bZ,ren,bA,pos]) (by simp [aM,bK,aZ,dD,wkL,wk,wkR,wkB,pos]) (by simp) (by simp [bO,bZ,ren,bA,back,bN]) (by simp [ren,bA]) (by simp [aC,aB,hC]) ?_
      simp -implicitDefEqProofs only [rX,↓rY,rdK,↓reduceIte,Nat.reduceEqDiff,hC,g9,d1,d2]
      refine aE (Lu _ _ hcl hd) ⟨⟨dT.1,dT.1,trivial⟩,dT.2,dT.2,trivial⟩ (by simp [ren,bA]) ⟨trivial,trivial,trivial,trivial,trivial⟩ ?_
      simp -implicitDefEqProofs only [rX,↓rY,cells?,splice,↓reduceIte,Nat.reduceEqDiff,Nat.reduceAdd,aV,a6,leH,leB,leV,dC,aC,aB,wfB,wfV,wfL,g7,z3,w1,w2,iT,dW,bP]
     all_goals exact ⟨by omega,Kd⟩
    ·have e1:(i:Int)-(spl n:Int)=((i-spl n:Nat):Int):=by omega
     have e2:(n:Int)-(spl n:Int)=((n-spl n:Nat):Int):=by omega
     rw [e1,e2]
     have hc:=ih (n-spl n) (by omega) x (i-spl n) l.dropLast (s||l.isEmpty) (by omega) (by omega) hx hD.dropLast (by simp;omega) (by omega)
     rw [Lj,Li,←Ey h2 (by omega)] at hc
     have hcl:=Fc (n-spl n) x (i-spl n) l.dropLast hx
     obtain ⟨w1,w2,w3⟩:=fN (lK (a:=l.getLastD lB) (b:=cl x (i-spl n) (n-spl n) l.dropLast))
     rw [Hw h2 (by omega)]
     refine ⟨by simp only [lo,Fx.hi];omega,by simp only [lo,Fx.hi];omega,?_,?_⟩
     all_goals
      refine eF [0,1,2,3] [.i ((i-spl n:Nat):Int),.i ((n-spl n:Nat):Int),.ptr 0 0 0,.ptr 1 0 0,.ptr 2 0 0] (.agg (us (cl x (i-spl n) (n-spl n) l.dropLast))) (.agg (us (cl x (i-spl n) (n-spl n) l.dropLast))) (hC x l.dropLast (s||l.isEmpty)) _ (hC x (nD l (dep i n)) (nX l s (dep i n))++[.var (us z16),.var (us (l.getLastD lB))]) hc (by simp) (by simp [blk,bO,bZ,ren,bA,pos]) (by simp [aM,bK,aZ,dD,wkL,wk,wkR,wkB,pos]) (by simp) (by simp [bO,bZ,ren,bA,back,bN]) (by simp [ren,bA]) (by simp [aC,aB,hC]) ?_
      simp -implicitDefEqProofs only [rX,↓rY,rdK,↓reduceIte,Nat.reduceEqDiff,hC,g9,d1,d2]
      refine aE (Lu _ _ hd hcl) ⟨⟨dT.1,dT.1,trivial⟩,dT.2,dT.2,trivial⟩ (by simp [ren,bA]) ⟨trivial,trivial,trivial,trivial,trivial⟩ ?_
      simp -implicitDefEqProofs only [rX,↓rY,cells?,splice,↓reduceIte,Nat.reduceEqDiff,Nat.reduceAdd,aV,a6,leH,leB,leV,dC,aC,aB,wfB,wfV,wfL,g7,z3,w1,w2,iT,dW,bP]
     all_goals exact ⟨by omega,Kd⟩
   have hb:((n:Int)==1)=false:=by rw [beq_eq_false_iff_ne];omega
   have c126:=Yw l s hD hl
   have e16:16≤(us z16).length:=by omega
   rw [c125_eq]
   simp -implicitDefEqProofs only [rX,↓rY,c125,sqL,sqR,aA,cells?,splice,↓reduceIte,Nat.reduceEqDiff,Nat.reduceAdd,reduceCtorEq,aD,cxN,aL,w16,hC,x1,x2,iT,hb]
   repeat' first
    | exact rest _ _ rfl rfl rfl rfl rfl rfl
    | refine And.intro ?_ ?_
    | (refine aE (Lv n h2 hn) ⟨⟨trivial,trivial⟩,rfl,trivial⟩ rfl (by simp [aC,aB]) ?_
       simp -implicitDefEqProofs only [rX,↓rY,rdK,aA,cells?,↓reduceIte,Nat.reduceEqDiff,reduceCtorEq,aD,w16])
    | (refine eF [3] [.ptr 0 0 0] (.agg (us (l.getLastD lB))) (.agg (us (l.getLastD lB))) [.var [rD l,.b s]] _ (hC x l.dropLast (s||l.isEmpty)++[.var (us z16),.dead]) c126 (by simp) rfl (by simp [aM,bK,aZ,dD,wkL,wk,wkR,wkB,pos]) (by simp) rfl (by simp [ren,bA]) (by simp [aC,aB,hC]) ?_
       simp -implicitDefEqProofs only [rX,↓rY,aA,cells?,splice,↓reduceIte,Nat.reduceEqDiff,aD,w16,hC,d1,z1,z3,iT])
    | (refine eF [3] [.ptr 0 0 0] (.agg (us (l.getLastD lB))) (.agg (us (l.getLastD lB))) [.var [rD l,.b s]] _ (hC x l.dropLast (s||l.isEmpty)++[.var (us z16),.var (us z16)]) c126 (by simp) rfl (by simp [aM,bK,aZ,dD,wkL,wk,wkR,wkB,pos]) (by simp) rfl (by simp [ren,bA]) (by simp [aC,aB,hC]) ?_
       simp -implicitDefEqProofs only [rX,↓rY,cells?,splice,↓reduceIte,Nat.reduceEqDiff,hC,d1,z1,z3,iT])
  ·have hn1:n=1:=by omega
   subst hn1
   unfold c125
   have hb:(((1:Nat):Int)==1)=true:=rfl
   simp -implicitDefEqProofs only [rX,↓rY,aA,cells?,splice,↓reduceIte,Nat.reduceEqDiff,Nat.reduceAdd,reduceCtorEq,aD,aV,a6,leH,leB,leV,dC,aC,aB,wfB,wfV,wfL,cxN,aL,w16,hC,z1,z3,x1,x2,iT,dW,bP,hb]
   rw [Ag (by omega),z7 (by omega)]
   refine ⟨⟨Kd,?_,?_⟩,rfl⟩
   ·unfold nD;rw [yaZ,yaR]
   ·unfold nX;simp
def ckI (x:Bs) (i n:Int) (l:List Bs) (r:Bs):Bool:=if n<1∨1099511627776<n∨i<0∨n≤i then false else mL x i.toNat n.toNat l r
theorem acS (x:Bs) (i n:Int) (l:List Bs) (r:Bs) (hx:x.length=16) (hr:r.length=16) (hD:D16 l) (hl:l.length≤1000000000):Ok 81 [.agg (us x),.i i,.i n,rD l,.agg (us r)] (Is (.b (ckI x i n l r))):=by
 refine Qb pol [] lw81 (by simp) trivial (by simp) ?_
 obtain ⟨x1,x2,x3⟩:=fN hx
 obtain ⟨r1,r2,r3⟩:=fN hr
 unfold c81 c81a c81b
 simp -implicitDefEqProofs only [rX,↓rY,rdK,aA,cells?,splice,↓reduceIte,Nat.reduceEqDiff,Nat.reduceAdd,reduceCtorEq,aD,bV,aV,a6,wfV,isC,Nat.reduceLeDiff,cxN,Oc,aL]
 simp only [br,decide_eq_true_eq,decide_eq_false_iff_not]
 refine ⟨fun h1=>?_,fun h1=>⟨fun h2=>?_,fun h2=>⟨fun h3=>?_,fun h3=>⟨fun h4=>?_,fun h4=>?_⟩⟩⟩⟩
 ·rw [ckI,if_pos (.inl h1)]
 ·rw [ckI,if_pos (.inr (.inl h2))]
 ·rw [ckI,if_pos (.inr (.inr (.inl h3)))]
 ·rw [ckI,if_pos (.inr (.inr (.inr h4)))]
 obtain ⟨i,rfl⟩:∃ a:Nat,i=a:=⟨i.toNat,by omega⟩
 obtain ⟨n,rfl⟩:∃ a:Nat,n=a:=⟨n.toNat,by omega⟩
 have hck:ckI x i n l r=mL x i n l r:=by rw [ckI,if_neg (by omega),yan,yan]
 have hcl:=Fc n x i l hx
 have hc:=Yx n x i l false (by omega) (by omega) hx hD hl (by omega)
 refine ⟨[3,2],_,⟨rfl,rfl⟩,⟨trivial,trivial,trivial⟩,?_⟩
 have fin:((cl x i n l==r)&&!(nX l false (dep i n))&&(nD l (dep i n)).isEmpty)=mL x i n l r:=by
  unfold mL nX nD
  rw [Bool.and_comm (decide _),Bool.and_assoc]
  congr 1
  rw [Bool.eq_iff_iff]
  simp only [Bool.false_or,Bool.and_eq_true,Bool.not_eq_true',decide_eq_false_iff_not,List.isEmpty_iff,decide_eq_true_eq,List.take_eq_nil_iff]
  constructor
  ·rintro ⟨h5,h6|h6⟩
   ·omega
   ·subst h6;simp at h5 ⊢;omega
  ·intro h5;exact ⟨by omega,.inl (by omega)⟩
 have h124:=Yy (nD l (dep i n)) (nX l false (dep i n)) (cl x i n l==r) (by unfold nD;simp;omega)
 rw [fin,←hck] at h124
 refine ⟨?_,by omega,?_⟩
 all_goals
  refine eF [0,4,5,3] [.i i,.i n,.ptr 0 0 0,.ptr 1 0 0,.ptr 2 0 0] (.agg (us (cl x i n l))) (.agg (us (cl x i n l))) (hC x l false) _ [.var (us x),.var (us r),.var [.b false],.var [rD (nD l (dep i n)),.b (nX l false (dep i n))],.var [.ptr 3 0 0],.var [.clo 125 [.ptr 0 0 0,.ptr 4 0 0,.ptr 5 0 0]]] hc (by simp) (by simp [blk,bO,bZ,ren,bA,pos]) (by simp [aM,bK,aZ,dD,wkL,wk,wkR,wkB,pos]) (by simp) (by simp [bO,bZ,ren,bA,back,bN]) (by simp [ren,bA]) (by simp [aC,aB]) ?_
  simp -implicitDefEqProofs only [rX,↓rY,rdK,cells?,splice,↓reduceIte,Nat.reduceEqDiff,isC,r1,r2]
 all_goals
  rw [oF hcl hr]
  refine eF [3,2] [.ptr 0 0 0,.ptr 1 0 0] (.tup []) (.tup []) [.var [rD (nD l (dep i n)),.b (nX l false (dep i n))],.var [.b (cl x i n l==r)]] _ [.var (us x),.var (us r),.var [.b (ckI x i n l r)],.var [rD (nD l (dep i n)),.b (nX l false (dep i n))],.var [.ptr 3 0 0],.var [.clo 125 [.ptr 0 0 0,.ptr 4 0 0,.ptr 5 0 0]]] h124 (by simp) rfl (by simp [aM,bK,aZ,dD,wkL,wk,wkR,wkB,pos]) (by simp) rfl rfl trivial ?_
  simp -implicitDefEqProofs only [rX,↓rY,↓reduceIte,Nat.reduceEqDiff,aV,a6,wfV]
end Go.Fx.H
namespace Go.Fx.H
open Go Go.Fx Go.Proofs Go.Fx.R
set_option maxRecDepth 20000
section
variable {d:Bs} {tl:List V} {v:V}
theorem p_l (h:d.length=16):(us d).length=16:=by rw [dI,h]
end
end Go.Fx.H
namespace Go.Fx.H
open Go Go.Fx Go.Proofs Go.Fx.R
set_option maxRecDepth 20000
def chE (m:Man) (k:Int) (t:Bs) (p:List Bs):Int:=if k<0∨m.n≤k then 1 else if (t.length:Int)≠(m.span k).2-(m.span k).1∨ckI (lf t) k m.n p m.rt=false then 8 else 0
theorem Gf {m:Man} {k:Int} (h:m.okP) (h0:0≤k) (hk:k<m.n):0≤(m.span k).1∧(m.span k).1<(m.span k).2∧(m.span k).2≤m.size∧(m.span k).2≤65536:=by
 obtain ⟨p1,p2,p3⟩:=id h
 have hn:=Rz h
 have e:m.span k=(k*m.block,min m.size ((k+1)*m.block)):=by unfold Man.span;rw [if_neg (by omega)]
 rw [e]
 have h1:k+1≤(m.size+m.block-1)/m.block:=by
  have:=Ae (s:=m.size) (b:=m.block) p1.1 p2.1
  unfold Man.n at hk
  omega
 have h2:(k+1)*m.block≤m.size+m.block-1:=(Int.le_ediv_iff_mul_le (by omega)).1 h1
 have h3:(k+1)*m.block=k*m.block+m.block:=by rw [Int.add_mul,Int.one_mul]
 have h4:0≤k*m.block:=Int.mul_nonneg h0 (by omega)
 simp only
 omega
theorem Bb {m:Man} {k:Int} (hk:k<0∨m.n≤k):m.span k=(0,0):=by unfold Man.span;rw [if_pos hk]
theorem To {m:Man} {k:Int} (h:m.okP):(0≤(m.span k).1∧(m.span k).1≤65536)∧0≤(m.span k).2∧(m.span k).2≤65536:=by
 by_cases hk:k<0∨m.n≤k
 ·rw [Bb hk];simp
 ·have:=Gf h (by omega) (k:=k) (by omega);omega
theorem Xz (m:Man) (k:Int) (t:Bs) (p:List Bs) (h:m.okP) (hr:m.rt.length=16) (ht:t.length≤100000000000) (hD:D16 p) (hp:p.length≤1000000000):Ok 39 [.agg m.enc,.i k,sv t,rD p] (Is (.i (chE m k t p))):=by
 refine bY lw39 (by simp) ?_
 unfold c39
 obtain ⟨q1,q2,q3⟩:=nK hr
 have sb:=To (k:=k) h
 simp -implicitDefEqProofs only [rX,↓rY,aA,cells?,↓reduceIte,Nat.reduceEqDiff,Nat.reduceAdd,reduceCtorEq,aD,cxN,aL,q1,q2]
 refine aE (Ya m k h hr) ⟨⟨dE.1,trivial,trivial⟩,dE.2,rfl,trivial⟩ (by simp [ren,bZ,enS]) trivial ?_
 simp -implicitDefEqProofs only [rX,↓rY,qg,rdK,aA,cells?,splice,↓reduceIte,Nat.reduceEqDiff,Nat.reduceAdd,reduceCtorEq,aD,aV,a6,wfV,bR,b6,sE,l7,j1,q1,q2]
 simp only [br,beq_iff_eq,beq_eq_false_iff_ne]
 refine ⟨fun h1=>?_,fun h1=>?_⟩
 ·unfold chE
  have:k<0∨m.n≤k:=by
   rcases Int.lt_or_le k 0 with h2|h2
   ·exact .inl h2
   ·rcases Int.lt_or_le k m.n with h3|h3
    ·have:=Gf h h2 h3;omega
    ·exact .inr h3
  rw [if_pos this]
 ·have hin:¬(k<0∨m.n≤k):=fun h2=>h1 (by rw [Bb h2])
  have tk2:yai 16 (yao 2 m.enc)=us m.rt:=by
   show yai 16 (us m.rt)=_
   exact yad (by rw [dI,hr];exact yab _)
  refine ⟨by simp only [lo,Fx.hi];omega,fun h2=>?_,fun h2=>?_⟩
  ·unfold chE
   rw [if_neg hin,if_pos (.inl (by simpa using h2))]
  ·have h2':(t.length:Int)=(m.span k).2-(m.span k).1:=by simpa using h2
   refine aE (Ut t ht) ⟨⟨trivial,trivial⟩,rfl,trivial⟩ (by simp [ren,bA]) trivial ?_
   simp -implicitDefEqProofs only [rX,↓rY,↓reduceIte,Nat.reduceEqDiff,tk2]
   refine aE (Qe m h) s7 rfl trivial ?_
   simp -implicitDefEqProofs only [rX,↓rY,↓reduceIte,Nat.reduceEqDiff]
   refine aE (acS (lf t) k m.n p m.rt n7 hr hD hp) ⟨⟨dT.1,trivial,trivial,trivial,dT.1,trivial⟩,dT.2,rfl,rfl,⟨rfl,rfl⟩,dT.2,trivial⟩ rfl trivial ?_
   simp -implicitDefEqProofs only [rX,↓rY,aA,↓reduceIte,Nat.reduceEqDiff,Nat.reduceAdd,aV,a6,wfV]
   unfold chE
   rw [if_neg hin]
   cases hc:ckI (lf t) k m.n p m.rt with
   | true=>simp [br,h2']
   | false=>simp [br,h2']
def prE (t:Bs) (b k:Int):Int:=if mkE t b≠0 then mkE t b else inE (lvs t b.toNat) k
def prL (t:Bs) (b k:Int):List Bs:=if mkE t b≠0 then [] else inL (lvs t b.toNat) k
theorem Zg {t:Bs} {b:Int} (h:mkE t b=0):1≤b∧b≤4096∧t.length≤65536∧nF t.length b≤4096:=by
 unfold mkE at h
 split at h
 ·omega
 ·split at h
  ·omega
  ·omega
theorem Qi {t:Bs} {b:Int}:(mkM t b).rt.length=16:=by
 unfold mkM
 split
 ·exact gH _ _ rfl Hd
 ·rfl
theorem vZ {f:Nat→Option Nat}:∀ l:List V,(∀ x∈l,∃ u,x=.v u)→bZ f l=l
 | [],_=>rfl
 | x::r,h=>by
  obtain ⟨u,rfl⟩:=h x yaD
  show V.v u::bZ f r=_
  rw [vZ r fun y hy=>h y (yaE _ hy)]
theorem Bw {m:Man} {f:Nat→Option Nat}:bZ f m.enc=m.enc:=vZ _ o9
theorem acZ (t:Bs) (b k:Int) (ht:t.length≤1000000000):Ok 29 [sv t,.i b,.i k] (Is (.tup [rD (prL t b k),.i (prE t b k)])):=by
 refine jX (R:=fun q hs=>wk (.tup [rD (prL t b k),.i (prE t b k)]) (gvV (fun _=>true) hs q)) ?_ fun _ _ h=>h
 refine bY lw29 (by simp) ?_
 unfold c29
 obtain ⟨q1,q2,q3⟩:=nK (m:=mkM t b) Qi
 obtain ⟨s1,s2,s3⟩:=nK (m:=Ap) rfl
 simp -implicitDefEqProofs only [rX,aA,↓reduceIte,Nat.reduceEqDiff,Nat.reduceAdd,reduceCtorEq,cxN,aL]
 refine aE (Yb t b ht) ⟨⟨trivial,trivial,trivial⟩,rfl,rfl,trivial⟩ (by simp [ren,bZ,Bw]) trivial ?_
 simp -implicitDefEqProofs only [rX,↓rY,aA,cells?,splice,↓reduceIte,Nat.reduceEqDiff,reduceCtorEq,aD,aV,a6,aC,wfV,wfL,q1,s1,s3,Hc,eH,zM]
 simp only [br,bne_iff_ne,bne_eq_false_iff_eq]
 refine ⟨fun h1=>⟨([]:List Blk),⟨trivial,yag _,trivial⟩,?_⟩,fun h1=>?_⟩
 ·rw [prL,prE,if_pos h1,if_pos h1];simp [gvV,gvL,wk,wkL,wkR]
 ·obtain ⟨b1,b2,b3,b4⟩:=Zg h1
  obtain ⟨n,rfl⟩:∃ n:Nat,b=n:=⟨b.toNat,by omega⟩
  refine aE (Uu t n ⟨by omega,by omega⟩ ht) ⟨⟨trivial,trivial,trivial⟩,rfl,rfl,trivial⟩ (by simp [ren]) trivial ?_
  simp -implicitDefEqProofs only [rX,↓reduceIte,Nat.reduceEqDiff,reduceCtorEq]
  have hn:nb t.length n≤t.length:=Lz (by omega)
  refine aE (acT (lvs t n) k Hd (by rw [s9];omega)) ⟨⟨trivial,trivial,trivial⟩,⟨rfl,rfl⟩,rfl,trivial⟩ (by simp [ren,bZ]) trivial ?_
  simp -implicitDefEqProofs only [rX,↓rY,↓reduceIte,Nat.reduceEqDiff,aV,a6,aC,wfV,wfL,eH]
  refine ⟨([]:List Blk),⟨trivial,yag _,trivial⟩,?_⟩
  rw [prL,prE,if_neg (by simpa using h1),if_neg (by simpa using h1),yan]
  simp [gvV,gvL,wk,wkL,wkR]
end Go.Fx.H
namespace Go.Fx.H
open Go Go.Fx Go.Proofs Go.Fx.R
set_option maxRecDepth 20000
theorem acV (l m:List Sp):Ok 66 [aN l,aN m] (Is (.b (l==m))):=by
 refine bY lw66 (by simp) ?_
 unfold c66 aN
 simp -implicitDefEqProofs only [rX,↓rY,aA,↓reduceIte,Nat.reduceEqDiff,reduceCtorEq,aV,a6,wfV,cxN,aL]
 intro hm1 hm2
 have hne:∀ j (h1:j<l.length) (h2:j<m.length),l[j]≠m[j]→(l==m)=false:=by
  intro j h1 h2 hne
  rw [beq_eq_false_iff_ne]
  intro e
  subst e
  exact hne rfl
 cases hb:(decide ((l.length:Int)=m.length)) with
 | false =>
  have hb':((l.length:Int) != (m.length:Int))=true:=by simpa using hb
  simp -implicitDefEqProofs only [↓rY,hb']
  rw [eq_comm,beq_eq_false_iff_ne]
  rintro rfl
  simp at hb
 | true =>
  have hb':((l.length:Int) != (m.length:Int))=false:=by simpa using hb
  have hlm:l.length=m.length:=by rw [decide_eq_true_eq] at hb;omega
  simp -implicitDefEqProofs only [↓rY,hb']
  refine aT (fun k:Nat=>⟨[(5,.i k),(1,.ro 2 (m.map enS)),(0,.ro 2 (l.map enS))],[],0⟩) (fun k=>k≤l.length∧l.take k=m.take k) (fun k=>l.length-k) 0 ⟨by omega,by simp⟩ ?_ ?_
  ·simp -implicitDefEqProofs only [rX,↓reduceIte,Nat.reduceEqDiff,reduceCtorEq,leE,leH,aC,wfE,wfB,wfV,yaO]
  rintro k ⟨hk,hv⟩
  unfold c66l0
  simp -implicitDefEqProofs only [rX,↓rY,aA,↓reduceIte,Nat.reduceEqDiff,reduceCtorEq,aV,a6,leE,leH,aC,wfE,wfB,wfV,yal,yan,b6,cF,Zy]
  simp only [br,decide_eq_true_eq,decide_eq_false_iff_not]
  refine fun hm'=>⟨fun h=>?_,fun h=>?_⟩
  ·have hk':k<l.length:=by omega
   have hk2:k<m.length:=by omega
   refine ⟨⟨by omega,h⟩,hk',⟨by omega,by omega⟩,hk2,?_⟩
   cases he:(l[k]==m[k]) with
   | true =>
    have he':l[k]=m[k]:=by simpa using he
    refine ⟨by simp,fun _=>⟨by simp only [lo,hi,maxLen] at *;omega,k+1,⟨⟨by omega,?_⟩,by omega⟩,by simp⟩⟩
    rw [yav,yav,hv,yah hk',yah hk2,he']
   | false=>exact ⟨fun _=>(hne k hk' hk2 (by simpa using he)).symm,by simp⟩
  ·have h1:l.take k=l:=yad (by omega)
   have h2:m.take k=m:=yad (by omega)
   rw [h1,h2] at hv
   simp [hv]
end Go.Fx.H
namespace Go.Fx.H
open Go Go.Fx Go.Proofs Go.Fx.R
set_option maxRecDepth 20000
end Go.Fx.H
namespace Go.Fx.H
open Go Go.Fx Go.Proofs Go.Fx.R
set_option maxRecDepth 20000
end Go.Fx.H
namespace Go.Fx.H
open Go Go.Fx Go.Proofs Go.Fx.R
set_option maxRecDepth 20000
def cov (l:List Sp) (s:Sp):Bool:=(mH (ofS [s]) l).isEmpty
theorem Qj {s:Sp} (h:BdS s):Mid [s]:=by
 intro t ht
 simp at ht;subst ht
 unfold BdS at h;omega
theorem Td {s:Sp} (h:BdS s):Vd (ofS [s]):=Vd.of (by
 intro t ht;simp at ht;subst ht;exact h)
theorem acR (l:List Sp) (s:Sp) (hl:Vd l) (hs:BdS s):Ok 83 [aN l,.agg (enS s)] (Is (aN (mH (ofS [s]) l))):=by
 refine bY lw83 (by simp) ?_
 unfold c83
 simp -implicitDefEqProofs only [rX,↓rY,aA,cells?,↓reduceIte,Nat.reduceEqDiff,reduceCtorEq,aD,cB,Nat.reduceLT,cxN,b6,cF,nM,aL]
 refine dN [1] [0] [1] [.sl 0 0 1] (aN (ofS [s])) (aN (ofS [s])) [.arr 2 [enS s]] [.dead] _ _ (Sa [s] (by simp) (Qj hs)) (by simp) (by simp) (by simp [blk,bO]) (by simp [aM,bK,aZ,dD,wkL,wk,wkR,pos]) rfl rfl rfl trivial ?_
 simp -implicitDefEqProofs only [rX,↓reduceIte,Nat.reduceEqDiff,Nat.reduceAdd,reduceCtorEq,aQ,a7,kill,St.kill,iQ]
 refine aE (acX (ofS [s]) l (Td hs) hl) ⟨⟨trivial,trivial,trivial⟩,⟨rfl,rfl⟩,⟨rfl,rfl⟩,trivial⟩ rfl trivial ?_
 simp -implicitDefEqProofs only [rX,↓reduceIte,aV,a6,wfV]
theorem Qx {l:List Sp}:((l.length:Int)==0)=l.isEmpty:=by
 cases l with
 | nil=>rfl
 | cons a r=>simp;omega
theorem acY (l:List Sp) (s:Sp) (hl:Vd l) (hs:BdS s):Ok 42 [aN l,.agg (enS s)] (Is (.b (cov l s))):=by
 refine bY lw42 (by simp) ?_
 unfold c42
 simp -implicitDefEqProofs only [rX,↓rY,aA,cells?,↓reduceIte,Nat.reduceEqDiff,reduceCtorEq,aD,cxN,b6,cF,aL]
 refine aE (acR l s hl hs) ⟨⟨trivial,⟨trivial,trivial,trivial⟩,trivial⟩,⟨rfl,rfl⟩,⟨rfl,rfl,trivial⟩,trivial⟩ rfl trivial ?_
 simp -implicitDefEqProofs only [rX,↓rY,aA,↓reduceIte,aV,a6,wfV]
 intro hm
 rw [Qx];rfl
end Go.Fx.H
namespace Go.Fx.H
open Go Go.Fx Go.Proofs Go.Fx.R
set_option maxRecDepth 20000
def spn (t:Bs) (b i:Nat):Sp:=(((i*b:Nat):Int),((i*b:Nat):Int)+((bk t b i).length:Int))
def iO (hv:List Sp):Int:=(hv.getLast?.map (·.2)).getD 0
def dmE (m:Man) (ls:List Bs) (t:Bs) (hv:List Sp):Int :=
 if (ls.length:Int)≠m.n∨(t.length:Int)≠m.size∨vd hv=false∨(hv≠[]∧m.size<iO hv) then 1 else if root ls≠m.rt then 8 else 0
def dmg (ls:List Bs) (t:Bs) (b:Nat) (hv:List Sp) (i:Nat):Bool:=(lf (bk t b i) != ls.getD i [])&&cov hv (spn t b i)
def dmO (ls:List Bs) (t:Bs) (b:Nat) (hv:List Sp) (n:Nat):List Sp:=((List.range n).filter (dmg ls t b hv)).map (spn t b)
def dmL (m:Man) (ls:List Bs) (t:Bs) (hv:List Sp):List Sp:=if dmE m ls t hv≠0 then [] else ofS (dmO ls t m.block.toNat hv (nb t.length m.block.toNat))
theorem dm1 {m:Man} {ls:List Bs} {t:Bs} {hv:List Sp} (h:(ls.length:Int)≠m.n∨(t.length:Int)≠m.size∨vd hv=false∨(hv≠[]∧m.size<iO hv)):dmE m ls t hv=1:=if_pos h
theorem dm8 {m:Man} {ls:List Bs} {t:Bs} {hv:List Sp} (h:¬((ls.length:Int)≠m.n∨(t.length:Int)≠m.size∨vd hv=false∨(hv≠[]∧m.size<iO hv))) (h2:root ls≠m.rt):dmE m ls t hv=8:=by
 unfold dmE;rw [if_neg h,if_pos h2]
theorem dm0 {m:Man} {ls:List Bs} {t:Bs} {hv:List Sp} (h:¬((ls.length:Int)≠m.n∨(t.length:Int)≠m.size∨vd hv=false∨(hv≠[]∧m.size<iO hv))) (h2:root ls=m.rt):dmE m ls t hv=0:=by
 unfold dmE;rw [if_neg h,if_neg (by simpa using h2)]
theorem Em {hv:List Sp} (h:hv≠[]) {hh:((hv.length:Int)-1).toNat<hv.length}:(hv[((hv.length:Int)-1).toNat]'hh).2=iO hv:=by
 unfold iO
 rw [ybl]
 have e:((hv.length:Int)-1).toNat=hv.length-1:=by omega
 rw [←e,yah hh];rfl
def pt:Nat→LCode→LCode
 | 0,.seq a _=>a
 | n+1,.seq _ b=>pt n b
 | _,c=>c
def rt:Nat→LCode→LCode
 | 0,c=>c
 | n+1,.seq _ b=>rt n b
 | _,c=>c
abbrev cT:Cx:=cxN Tryz.prog []
structure E14 (m:Man) (ls:List Bs) (t:Bs) (e:Env):Prop where
 g2:get e 2=sv t
 g4:get e 4=.ptr 0 0 0
 g5:get e 5=.ptr 1 0 0
 g7:get e 7=.ptr 2 0 0
abbrev h14 (m:Man) (ls:List Bs) (hv:List Sp):List Blk:=[.var m.enc,.var [bD ls],.var [aN hv]]
theorem c14_parts:c14=.seq (pt 0 c14) (.seq (pt 1 c14) (rt 2 c14)):=by rfl
section
variable {m:Man} {ls:List Bs} {t:Bs} {hv:List Sp} {N R:St→Prop} {X:Nat→St→Prop} {e:Env}
theorem Wy (hm:m.okP) (hr:m.rt.length=16) (hD:D16 ls) (hl:ls.length≤1000000000) (hh:hv.length≤1000000000) (hE:E14 m ls t e)
  (hN:∀ e',E14 m ls t e'→dmE m ls t hv=0→N ⟨e',h14 m ls hv,3⟩)
  (hR:∀ e' k,get e' 8=.v (.slice none 0 0)→get e' 9=.v (.int .i64 k)→dmE m ls t hv=k→k≠0→R ⟨e',h14 m ls hv,3⟩) :
  aw cT (pt 1 c14) N X R ⟨e,h14 m ls hv,3⟩:=by
 obtain ⟨g2,g4,g5,g7⟩:=hE
 obtain ⟨q1,q2,q3⟩:=nK (m:=m) hr
 have m0:m.enc[0]?=some (.i m.size):=rfl
 have tk2:yai 16 (yao 2 m.enc)=us m.rt:=by
  show yai 16 (us m.rt)=_
  exact yad (by rw [dI,hr];exact yab _)
 conv=>arg 2;whnf
 simp -implicitDefEqProofs only [rX,↓rY,rdK,↓reduceIte,Nat.reduceEqDiff,Nat.reduceAdd,cxN,q1,q2,g4,g5]
 intro _
 refine aE (Qe m hm) s7 rfl trivial ?_
 cases h1:((ls.length:Int) != m.n) with
 | true =>
  simp -implicitDefEqProofs only [rX,↓rY,qg,rdK,aA,↓reduceIte,Nat.reduceEqDiff,Nat.reduceAdd,h1]
  exact hR _ 1 rfl rfl (dm1 (.inl (by simpa using h1))) (by decide)
 | false =>
 simp -implicitDefEqProofs only [rX,↓rY,qg,rdK,aA,↓reduceIte,Nat.reduceEqDiff,Nat.reduceAdd,bR,h1,m0,g2,g4,g7]
 cases h2:((t.length:Int) != m.size) with
 | true =>
  simp -implicitDefEqProofs only [↓rY,kb]
  exact hR _ 1 rfl rfl (dm1 (.inr (.inl (by simpa using h2)))) (by decide)
 | false =>
 simp -implicitDefEqProofs only [↓rY,kc]
 refine aE (Xy hv) ⟨⟨trivial,trivial⟩,⟨rfl,rfl⟩,trivial⟩ rfl trivial ?_
 cases h3:vd hv with
 | false =>
  simp -implicitDefEqProofs only [rX,↓rY,rdK,aA,↓reduceIte,Nat.reduceEqDiff,Nat.reduceAdd]
  exact hR _ 1 rfl rfl (dm1 (.inr (.inr (.inl h3)))) (by decide)
 | true =>
 have hx1:(ls.length:Int)=m.n:=by simpa using h1
 have hx2:(t.length:Int)=m.size:=by simpa using h2
 simp -implicitDefEqProofs only [rX,↓rY,rdK,aA,↓reduceIte,Nat.reduceEqDiff,Nat.reduceAdd,yal,l7,g4,g5,g7]
 intro _
 have hor:hv=[]∨hv≠[]:=by cases hv<;>simp
 rcases hor with rfl|hne
 ·have hz:¬((ls.length:Int)≠m.n∨(t.length:Int)≠m.size∨vd []=false∨(([]:List Sp)≠[]∧m.size<iO [])):=by simp [hx1,hx2,h3]
  simp -implicitDefEqProofs only [rX,↓rY,yaO,Int.lt_irrefl,decide_false,kc,tk2,q1]
  refine aE (Lr _ ls rfl hD (by omega)) ⟨⟨trivial,trivial⟩,⟨rfl,rfl⟩,trivial⟩ (by simp [ren,bA]) trivial ?_
  simp -implicitDefEqProofs only [rX,aA,↓reduceIte,Nat.reduceEqDiff,Nat.reduceAdd,oF (gH _ ls rfl hD) hr]
  cases h5:(root ls==m.rt) with
  | false =>
   simp only [yaS,kb]
   exact hR _ 8 rfl rfl (dm8 hz (by simpa using h5)) (by decide)
  | true =>
   simp only [yaT,kc]
   exact hN _ ⟨g2,g4,g5,g7⟩ (dm0 hz (by simpa using h5))
 ·have hp:0<hv.length:=List.length_pos_iff.2 hne
  have hlt:=fun hh=>Em hne (hh:=hh)
  simp -implicitDefEqProofs only [rX,↓rY,decide_eq_true (show (0:Int)<(hv.length:Int) by omega),kb,m0,tk2,q1]
  intro _
  refine ⟨by simp only [lo,Fx.hi];omega,by omega,by omega,?_⟩
  rw [hlt]
  cases h4:decide (m.size<iO hv) with
  | true =>
   simp -implicitDefEqProofs only [↓rY,kb]
   exact hR _ 1 rfl rfl (dm1 (.inr (.inr (.inr ⟨hne,by simpa using h4⟩)))) (by decide)
  | false =>
  have hz:¬((ls.length:Int)≠m.n∨(t.length:Int)≠m.size∨vd hv=false∨(hv≠[]∧m.size<iO hv)):=by
   have:¬m.size<iO hv:=by simpa using h4
   simp [hx1,hx2,h3,this]
  simp -implicitDefEqProofs only [↓rY,kc]
  refine aE (Lr _ ls rfl hD (by omega)) ⟨⟨trivial,trivial⟩,⟨rfl,rfl⟩,trivial⟩ (by simp [ren,bA]) trivial ?_
  simp -implicitDefEqProofs only [rX,aA,↓reduceIte,Nat.reduceEqDiff,Nat.reduceAdd,oF (gH _ ls rfl hD) hr]
  cases h5:(root ls==m.rt) with
  | false =>
   simp only [yaS,kb]
   exact hR _ 8 rfl rfl (dm8 hz (by simpa using h5)) (by decide)
  | true =>
   simp only [yaT,kc]
   exact hN _ ⟨g2,g4,g5,g7⟩ (dm0 hz (by simpa using h5))
end
abbrev hpD (m:Man) (ls:List Bs) (t:Bs) (hv:List Sp) (b:Nat) (i:Nat):List Blk:=[.var m.enc,.var [bD ls],.var [aN hv],.var [.sl 7 0 (dmO ls t b hv i).length],.var [sv t],.var [.i b],.rcd .ready [(58,.clo 111 [.ptr 4 0 0,.ptr 5 0 0]),(10,.ptr 3 0 0),(2,sv t),(4,.ptr 0 0 0),(5,.ptr 1 0 0),(7,.ptr 2 0 0)],.arr 2 ((dmO ls t b hv i).map enS)]
theorem itD (m:Man) (ls:List Bs) (t:Bs) (hv:List Sp) (b:Nat) (hb:1≤b∧b≤1000000000) (ht:t.length≤1000000000):ItB (hpD m ls t hv b) 8 t b 6 4 5 [6]:=by
 refine ⟨hb,ht,fun g=>rfl,fun g tl=>rfl,fun g tl=>rfl,fun g=>⟨trivial,trivial⟩,fun g=>?_,fun g=>⟨_,_,rfl⟩⟩
 simp -implicitDefEqProofs only [rX,aB,wfE,wfB,wfV,wfL,rE]
theorem Ko {t:Bs} {b g:Nat} (hb:1≤b∧b≤1000000000) (ht:t.length≤1000000000) (h:g<nb t.length b):BdS (spn t b g)∧(spn t b g).1<(spn t b g).2:=by
 have hlt:=(uJ hb.1).2 h
 have hl:=Ak (t:=t) (b:=b) (j:=g)
 unfold BdS spn
 simp only
 omega
theorem j2 {ls:List Bs} {t:Bs} {b:Nat} {hv:List Sp} {n:Nat}:dmO ls t b hv (n+1)=dmO ls t b hv n++if dmg ls t b hv n=true then [spn t b n] else []:=by
 unfold dmO
 rw [List.range_succ,List.filter_append,yaJ]
 congr 1
 cases h:dmg ls t b hv n<;>simp [h]
theorem Qy {ls:List Bs} {t:Bs} {b:Nat} {hv:List Sp} {n:Nat} (hb:1≤b∧b≤1000000000) (ht:t.length≤1000000000) (h:n≤nb t.length b):Mid (dmO ls t b hv n):=by
 intro s hs
 obtain ⟨g,hg,rfl⟩:=List.mem_map.1 hs
 have hg2:=List.mem_range.1 (List.mem_filter.1 hg).1
 have:=Ko hb ht (show g<nb t.length b by omega)
 unfold BdS at this
 omega
theorem Nk {ls:List Bs} {t:Bs} {b:Nat} {hv:List Sp} {n:Nat}:(dmO ls t b hv n).length≤n:=by
 unfold dmO
 rw [yaM]
 exact ybb (List.length_filter_le _ _) (by simp)
theorem hO {m:Man} {M:List Nat}:bE M m.enc=m.enc:=lE _ o9
theorem Zz {m:Man} {ls:List Bs} {t:Bs} {hv:List Sp} {b:Nat} (hm:m.okP) (hb1:1≤b) (hb:m.block=b) (h:dmE m ls t hv=0):ls.length=nb t.length b∧Vd hv:=by
 unfold dmE at h
 split at h
 ·omega
 ·rename_i h1
  have h2:(ls.length:Int)=m.n:=Decidable.byContradiction fun c=>h1 (.inl c)
  have h3:(t.length:Int)=m.size:=Decidable.byContradiction fun c=>h1 (.inr (.inl c))
  have h4:vd hv=true:=by
   cases hv':vd hv with
   | true=>rfl
   | false=>exact absurd (.inr (.inr (.inl hv'))) h1
  refine ⟨?_,Ka.1 h4⟩
  unfold Man.n at h2
  rw [←h3,hb,Uz hb1] at h2
  omega
theorem adC (m:Man) (ls:List Bs) (t:Bs) (hv:List Sp) (hm:m.okP) (hr:m.rt.length=16) (hD:D16 ls) (hl:ls.length≤1000000000) (ht:t.length≤1000000000) (hh:hv.length≤1000000000) :
  Ok 14 [.agg m.enc,bD ls,sv t,aN hv] (Is (.tup [aN (dmL m ls t hv),.i (dmE m ls t hv)])):=by
 refine jX (R:=fun q hs=>wk (.tup [aN (dmL m ls t hv),.i (dmE m ls t hv)]) (gvV (fun _=>true) hs q)) ?_ fun _ _ h=>h
 refine bY lw14 (by simp) ?_
 rw [c14_parts]
 obtain ⟨q1,q2,q3⟩:=nK (m:=m) hr
 obtain ⟨b,hb,hb2⟩:∃ b:Nat,m.block=b∧(1≤b∧b≤4096):=⟨m.block.toNat,by have:=hm.2.1;omega,by have:=hm.2.1;omega⟩
 have m1:m.enc[1]?=some (.i b):=by rw [←hb];rfl
 simp -implicitDefEqProofs only [qJ]
 conv=>arg 2;whnf
 simp -implicitDefEqProofs only [rX,↓rY,aA,cells?,↓reduceIte,Nat.reduceEqDiff,Nat.reduceAdd,reduceCtorEq,aD,cxN,aL]
 refine Wy hm hr hD hl hh ⟨rfl,rfl,rfl,rfl⟩ ?_ ?_
 ·rintro e ⟨g2,g4,g5,g7⟩ he0
  obtain ⟨hln,hvv⟩:=Zz hm hb2.1 hb he0
  conv=>arg 2;whnf
  simp -implicitDefEqProofs only [rX,↓rY,aA,cells?,↓reduceIte,Nat.reduceEqDiff,Nat.reduceAdd,aD,g2,g4,m1]
  refine eP [sv t,.i b] (.clo 111 [.ptr 0 0 0,.ptr 1 0 0]) (.clo 111 [.ptr 4 0 0,.ptr 5 0 0]) [.var [sv t],.var [.i b]] [.var [sv t],.var [.i b]] (Us t b) ⟨⟨trivial,trivial,trivial⟩,rfl,rfl,trivial⟩ (by simp [ren,bZ]) (by simp [bO,bZ,ren]) trivial ?_
  simp -implicitDefEqProofs only [rX]
  refine tZ 6 rfl rfl trivial ?_
  refine pO (as':=[.itr 6,.ptr 4 0 0,.ptr 5 0 0]) (h':=hpD m ls t hv b 0) rfl ⟨_,.virt 1 2 (by decide) (.nilB 3 [.nil] [.sl 7 0 0] rfl ⟨rfl,fun i a b h1 h2=>?_⟩ (.refl _)),?_⟩ (Mn (Inv:=fun i g=>g=i) (itD m ls t hv b (by omega) ht) ?_ ?_ _ rfl)
  ·match i with
   | 0=>simp at h1 h2;subst h1 h2;exact .inr ⟨rfl,_,rfl⟩
   | i+1=>simp at h1
  ·simp -implicitDefEqProofs only [rX,↓reduceIte,Nat.reduceEqDiff,Nat.reduceAdd,reduceCtorEq,leE,leH,leB,leV,dC,aC,aB,wfE,wfB,wfV,wfL,aL,ybc,or_true,g2,g4,g5,g7,rE]
   refine ⟨cP _,?_,?_⟩<;>rfl
  ·rintro i g hi rfl e2 bb Z he hZ
   refine Aq 8 rfl rfl rfl ?_
   unfold c14a0
   simp -implicitDefEqProofs only [rX,rZ,↓rW,↓reduceIte,Nat.reduceEqDiff,Nat.reduceAdd,gO]
   unfold c14r0
   simp -implicitDefEqProofs only [rX,↓rY,rdK,aA,cells?,splice,↓reduceIte,Nat.reduceEqDiff,Nat.reduceAdd,aD,bV,isC,Nat.reduceLeDiff,yal,bR,m1]
   have hbl:(bk t b g).length≤1000000000:=by rw [Ak];omega
   have hlt:=(uJ hb2.1).2 hi
   have hq:(((g*b:Nat):Int).tdiv (b:Int))=(g:Int):=by
    rw [Int.natCast_mul,Int.mul_tdiv_cancel _ (by omega)]
   have hgl:g<ls.length:=by rw [hln];exact hi
   simp only [hq,yan]
   obtain ⟨hbd,hss⟩:=Ko (t:=t) (by omega) ht hi
   obtain ⟨u1,u2,u3⟩:=fN (hD _ (yaj hgl))
   have h1:g≤g*b:=Nat.le_mul_of_pos_right _ hb2.1
   refine ⟨by simp only [lo,Fx.hi];omega,by omega,by simp only [lo,Fx.hi];omega,by omega,hgl,by omega,?_⟩
   refine aE (Ut (bk t b g) (by omega)) ⟨⟨trivial,trivial⟩,rfl,trivial⟩ (by simp [ren,bA]) ⟨trivial,trivial,trivial⟩ ?_
   have hisd:dmg ls t b hv g=((lf (bk t b g) != ls[g])&&cov hv (spn t b g)):=by simp [dmg,List.getD,yah hgl]
   cases h6:(lf (bk t b g)==ls[g]) with
   | true =>
    simp -implicitDefEqProofs only [rX,↓rY,rZ,↓rW,rdK,aA,↓reduceIte,Nat.reduceEqDiff,Nat.reduceAdd,oF n7 (hD _ (yaj hgl)),h6,u2]
    have e1:dmO ls t b hv (g+1)=dmO ls t b hv g:=by rw [j2,hisd];simp [bne,h6]
    have hs:=hZ e2 (g+1) [.dead,.var (enS (spn t b g))] ⟨he.e0,he.e1,he.e2,he.e4⟩ rfl
    unfold hpD at hs
    rw [e1] at hs
    exact hs
   | false =>
    simp -implicitDefEqProofs only [rX,↓rY,rZ,↓rW,rdK,aA,↓reduceIte,Nat.reduceEqDiff,Nat.reduceAdd,oF n7 (hD _ (yaj hgl)),h6,u2]
    have es:spn t b g=(((g*b:Nat):Int),((g*b:Nat):Int)+((bk t b g).length:Int)):=rfl
    have o:=acY hv (spn t b g) hvv hbd
    rw [es] at o
    refine aE o ⟨⟨trivial,⟨trivial,trivial,trivial⟩,trivial⟩,⟨rfl,rfl⟩,⟨rfl,rfl,trivial⟩,trivial⟩ rfl ⟨trivial,trivial,trivial⟩ ?_
    rw [←es]
    cases h7:cov hv (spn t b g) with
    | false =>
     simp -implicitDefEqProofs only [rX,↓rY,rZ,↓rW,↓reduceIte,Nat.reduceEqDiff]
     have e1:dmO ls t b hv (g+1)=dmO ls t b hv g:=by rw [j2,hisd];simp [h7]
     have hs:=hZ e2 (g+1) [.dead,.var (enS (spn t b g))] ⟨he.e0,he.e1,he.e2,he.e4⟩ rfl
     unfold hpD at hs
     rw [e1] at hs
     exact hs
    | true =>
     simp -implicitDefEqProofs only [rX,↓rY,rZ,↓rW,cells?,splice,↓reduceIte,Nat.reduceEqDiff,Nat.reduceAdd,reduceCtorEq,aD,cB,aQ,a7,kill,bE,St.kill,isD,isC,Nat.reduceLT]
     have hml:=Nk (ls:=ls) (t:=t) (b:=b) (hv:=hv) (n:=g)
     refine ⟨by omega,?_⟩
     have e1:dmO ls t b hv (g+1)=dmO ls t b hv g++[spn t b g]:=by rw [j2,hisd];simp [bne,h6,h7]
     have hs:=hZ (aQ [7] e2) (g+1) [.dead,.var (enS (spn t b g)),.arr 2 [enS (spn t b g)],.dead] ?_ rfl
     ·unfold hpD at hs
      rw [e1,yaa,yaJ,yap] at hs
      rw [hO,yad (by simp)]
      exact hs
     ·refine ⟨?_,?_,?_,?_⟩<;>rw [aY]
      ·rw [he.e0];simp [kill]
      ·rw [he.e1];simp [kill]
      ·rw [he.e2];simp [kill]
      ·rw [he.e4];rfl
  ·rintro g rfl
   simp -implicitDefEqProofs only [rX,↓rY,rZ,↓rW,↓reduceIte,Nat.reduceEqDiff,Nat.reduceAdd,aB,wfE,wfB,wfV,wfL]
   refine ⟨rE,?_⟩
   have hml:=Nk (ls:=ls) (t:=t) (b:=b) (hv:=hv) (n:=nb t.length b)
   have hnb:=Lz (n:=t.length) hb2.1
   refine vH (dmO ls t b hv (nb t.length b)) rfl (by omega) (Qy (by omega) ht (yab _)) rfl rfl (by simp) trivial ?_
   simp -implicitDefEqProofs only [rX,aA,↓reduceIte,Nat.reduceEqDiff,reduceCtorEq,aV,a6,aC,wfV,wfL,aQ,a7,kill,bE,St.kill,eH]
   have e1:dmL m ls t hv=ofS (dmO ls t b hv (nb t.length b)):=by
    unfold dmL;rw [if_neg (by rw [he0];decide),hb,yan]
   rw [e1,he0]
   refine ⟨([]:List Blk),⟨trivial,yag _,trivial⟩,?_⟩
   simp [gvV,gvL,wk,wkL,wkR]
 ·intro e k g8 g9 hk hk0
  have e1:dmL m ls t hv=[]:=by unfold dmL;rw [if_pos (by rw [hk];exact hk0)]
  rw [eH,e1,hk]
  simp -implicitDefEqProofs only [rX,aV,a6,aC,wfV,wfL,g8,g9]
  refine ⟨([]:List Blk),⟨trivial,yag _,trivial⟩,?_⟩
  simp [gvV,gvL,wk,wkL,wkR]
end Go.Fx.H
namespace Go.Fx.H
open Go Go.Fx Go.Proofs Go.Fx.R
set_option maxRecDepth 20000
abbrev h15 (m:Man):List Blk:=[.var m.enc,.var [.v (.slice none 0 0),.v (.int .i64 0)]]
section
end
theorem yD {M:Nat→Bool} {h:List Blk}:∀ l:List V,(∀ x∈l,∃ u,x=.v u)→gvL M h l=l
 | [],_=>rfl
 | x::r,hx=>by
  obtain ⟨u,rfl⟩:=hx x yaD
  show V.v u::gvL M h r=_
  rw [yD r fun y hy=>hx y (yaE _ hy)]
theorem Vc {m:Man} {M:Nat→Bool} {h:List Blk}:gvL M h m.enc=m.enc:=yD _ o9
end Go.Fx.H
namespace Go.Fx.H
open Go Go.Fx Go.Proofs Go.Fx.R
set_option maxRecDepth 20000
def len (s:Sp):Int:=s.2-s.1
def Af (s t:Sp):Int:=len s-len t
theorem Qd (s t:Sp) (hs:BdS s) (ht:BdS t):Ok 68 [.agg (enS s),.agg (enS t)] (Is (.i (Af s t))):=by
 refine bY lw68 (by simp) ?_
 unfold c68
 unfold BdS at hs ht
 simp -implicitDefEqProofs only [rX,↓rY,aA,cells?,↓reduceIte,Nat.reduceEqDiff,Nat.reduceAdd,reduceCtorEq,aD,aV,a6,wfV,cxN,sE,l7,aL]
 refine ⟨by simp only [lo,Fx.hi];omega,by simp only [lo,Fx.hi];omega,by simp only [lo,Fx.hi];omega,?_⟩
 rfl
def lt (s t:Sp):Prop:=len s<len t∨(len s=len t∧s.1<t.1)
instance:DecidableRel lt:=fun s t=>inferInstanceAs (Decidable (_∨_))
theorem mJ {s t u:Sp} (h:lt s t) (h2:lt t u):lt s u:=by unfold lt at *;omega
theorem Ve {s:Sp}:¬lt s s:=by unfold lt;omega
theorem uP {s t:Sp} (h:s.1<t.1∨t.1<s.1):lt s t∨lt t s:=by unfold lt;omega
def SrL (l:List Sp):Prop:=l.Pairwise lt
def Ep (x:Sp):List Sp→List Sp
 | []=>[x]
 | y::r=>if lt x y then x::y::r else y::Ep x r
def bJ:List Sp→List Sp
 | []=>[]
 | x::r=>Ep x (bJ r)
theorem rF {x:Sp}:∀ {l:List Sp},(Ep x l).Perm (x::l)
 | []=>.refl _
 | y::r=>by
  unfold Ep
  split
  ·exact .refl _
  ·exact (rF.cons y).trans (.swap x y r)
theorem bL:∀ {l:List Sp},(bJ l).Perm l
 | []=>.refl _
 | x::r=>rF.trans (bL.cons x)
theorem Az:∀ {l m:List Sp},SrL l→SrL m→l.Perm m→l=m
 | [],m,_,_,h=>by have:=h.length_eq;cases m with
  | nil=>rfl
  | cons=>simp at this
 | x::r,[],_,_,h=>by have:=h.length_eq;simp at this
 | x::r,y::t,hl,hm,h=>by
  have hl':=yaq.1 hl
  have hm':=yaq.1 hm
  have exy:x=y:=by
   have h1:x∈y::t:=h.mem_iff.1 (by simp)
   have h2:y∈x::r:=h.mem_iff.2 (by simp)
   rcases yaA.1 h1 with h1|h1
   ·exact h1
   ·rcases yaA.1 h2 with h2|h2
    ·exact h2.symm
    ·exact absurd (mJ (hl'.1 y h2) (hm'.1 x h1)) Ve
  subst exy
  rw [Az hl'.2 hm'.2 (List.Perm.cons_inv h)]
def Asc (l:List Sp):Prop:=l.Pairwise fun s t=>s.1<t.1
def Dst (l:List Sp):Prop:=l.Pairwise fun s t=>s.1≠t.1
theorem mO {l m:List Sp} (h:Dst l) (hp:l.Perm m):Dst m:=hp.pairwise h (fun h=>Ne.symm h)
theorem Ce {x:Sp}:∀ {l:List Sp},SrL l→Dst (x::l)→SrL (Ep x l)
 | [],_,_=>by simp [Ep,SrL]
 | y::r,h,hd=>by
  have h':=yaq.1 h
  have hd':=yaq.1 hd
  unfold Ep
  split
  ·rename_i hxy
   refine yaq.2 ⟨fun z hz=>?_,h⟩
   rcases yaA.1 hz with rfl|hz
   ·exact hxy
   ·exact mJ hxy (h'.1 z hz)
  ·rename_i hxy
   refine yaq.2 ⟨fun z hz=>?_,Ce h'.2 (yaq.2 ⟨fun z hz=>hd'.1 z (by simp [hz]),(yaq.1 hd'.2).2⟩)⟩
   have hz':=rF.mem_iff.1 hz
   rcases yaA.1 hz' with rfl|hz'
   ·have:=hd'.1 y (by simp)
    rcases uP (s:=z) (t:=y) (by omega) with h|h
    ·exact absurd h hxy
    ·exact h
   ·exact h'.1 z hz'
theorem gG:∀ {l:List Sp},Dst l→SrL (bJ l)
 | [],_=>by simp [bJ,SrL]
 | x::r,h=>by
  have h':=yaq.1 h
  refine Ce (gG h'.2) (yaq.2 ⟨fun z hz=>h'.1 z (bL.mem_iff.1 hz),mO h'.2 bL.symm⟩)
theorem sY {l m:List Sp} (h:SrL m) (hp:m.Perm l) (hd:Dst l):bJ l=m:=Az (gG hd) h (bL.trans hp.symm)
theorem Ia {l:List Sp} (h:Asc l):Dst l:=h.imp fun h=>by omega
theorem Kq {α:Type} {A B:List α} {x y:α}:((A++y::x::B).set A.length x).set (A.length+1) y=A++x::y::B:=by
 rw [yaF _ _ (yab _),Nat.sub_self,List.set_cons_zero,yaF _ _ (by omega)]
 simp
theorem Ii {α:Type} {A B:List α} {x y:α}:((A++y::x::B).set (A.length+1) y).set A.length x=A++x::y::B:=by
 rw [yaF _ _ (by omega),yaF _ _ (yab _)]
 simp
theorem uX {S M:List Sp} {x:Sp} {g:Nat} (hS:SrL S) (hp:S.Perm M) (hd:Dst (M++[x])) (hgt:∀ y∈S.drop g,lt x y) (hle:∀ y∈S.take g,lt y x):bJ (M++[x])=S.take g++x::S.drop g:=by
 refine sY ?_ ?_ hd
 ·have h0:=hS
  rw [←yae g S] at h0
  obtain ⟨h1,h2,h3⟩:=yas.1 h0
  refine yas.2 ⟨h1,yaq.2 ⟨hgt,h2⟩,fun y hy z hz=>?_⟩
  rcases yaA.1 hz with rfl|hz
  ·exact hle y hy
  ·exact h3 y hy z hz
 ·refine List.perm_middle.trans ?_
  rw [yae]
  exact (hp.cons x).trans (List.perm_append_singleton x M).symm
abbrev rw2 (l:List Sp):Blk:=.arr 2 (l.map enS)
def mid (P S:List Sp) (x:Sp) (T:List Sp) (g:Nat):List Sp:=P++(S.take g++x::S.drop g)++T
theorem Me {P S T:List Sp} {x:Sp} {g:Nat} (hg:g≤S.length) (hh:((P.length:Int)+g).toNat<(mid P S x T g).length):(mid P S x T g)[((P.length:Int)+g).toNat]'hh=x:=by
 have e:((P.length:Int)+g).toNat=P.length+g:=by omega
 have hl:(S.take g).length=g:=by rw [yac];omega
 simp only [e,mid]
 rw [yaw (by simp;omega),yam (by omega),yam (by omega)]
 simp [hl]
theorem Sg {P S T:List Sp} {x:Sp} {g:Nat} (hg:1≤g) (hS:g-1<S.length) (hh:((P.length:Int)+g-1).toNat<(mid P S x T g).length):(mid P S x T g)[((P.length:Int)+g-1).toNat]'hh=S[g-1]:=by
 have e:((P.length:Int)+g-1).toNat=P.length+(g-1):=by omega
 have hl:(S.take g).length=g:=by rw [yac];omega
 simp only [e,mid]
 rw [yaw (by simp;omega),yam (by omega),yaw (by omega)]
 simp
theorem Mf {P S T:List Sp} {x:Sp} {g:Nat} (hg:1≤g) (hS:g-1<S.length):((mid P S x T g).set ((P.length:Int)+g).toNat S[g-1]).set ((P.length:Int)+g-1).toNat x=mid P S x T (g-1):=by
 have e1:((P.length:Int)+g).toNat=(P++S.take (g-1)).length+1:=by rw [yaa,yac];omega
 have e2:((P.length:Int)+g-1).toNat=(P++S.take (g-1)).length:=by rw [yaa,yac];omega
 have e3:S.take g=S.take (g-1)++[S[g-1]]:=by
  have:=yav (l:=S) (i:=g-1)
  rw [yah hS,show g-1+1=g by omega] at this
  exact this
 have e4:mid P S x T g=(P++S.take (g-1))++S[g-1]::x::(S.drop g++T):=by unfold mid;rw [e3];simp only [yaf,yaK,yaG]
 have e5:mid P S x T (g-1)=(P++S.take (g-1))++x::S[g-1]::(S.drop g++T):=by
  unfold mid;rw [yat hS,show g-1+1=g by omega];simp
 rw [e1,e2,e4,e5]
 exact Ii
theorem Ge {L L':List Sp} {i j:Nat} {x y:Sp} {hh:j<((L.map enS).set i (enS y)).length} (h:(L.set i y).set j x=L'):Blk.arr 2 (((L.map enS).set i (enS y)).set j (enS x++yao 2 (((L.map enS).set i (enS y))[j]'hh)))=rw2 L':=by
 have e1:(L.map enS).set i (enS y)=(L.set i y).map enS:=List.map_set.symm
 have e2:yao 2 (((L.map enS).set i (enS y))[j]'hh)=[]:=by
  simp only [e1,yal];rfl
 rw [e2,yax,e1,←List.map_set,h]
theorem Sd (P M Q:List Sp) (a b:Int) (n:Nat) (hn:n=(P++M++Q).length) (h:n≤100000) (ha:a=P.length) (hb:b=P.length+M.length) (hasc:Asc M) (hbd:Bd M) :
  OkN Tryz.prog 155 [.sl 0 0 n,.i a,.i b,.clo 68 []] [rw2 (P++M++Q)] [] (IsA (.tup []) [rw2 (P++bJ M++Q)]):=by
 subst ha hb
 have hlen:n=P.length+M.length+Q.length:=by rw [hn];simp;omega
 refine fR pol [0] lw155 (by simp) ⟨trivial,trivial⟩ (fun k hk hm=>by simp at hk ⊢;omega) ?_
 unfold c155
 simp -implicitDefEqProofs only [rX,↓rY,aA,↓reduceIte,Nat.reduceAdd,reduceCtorEq,cxN,aL]
 refine ⟨by simp only [lo,Fx.hi];omega,?_⟩
 refine aT (fun k:Nat=>⟨[(8,.i (P.length+k)),(0,.sl 0 0 n),(1,.i P.length),(2,.i (P.length+M.length)),(3,.clo 68 [])],[rw2 (P++(bJ (M.take k)++M.drop k)++Q)],0⟩) (fun k=>1≤k∧k≤max 1 M.length) (fun k=>1+M.length-k) 1 (by omega) ?_ ?_
 ·have e1:bJ (M.take 1)++M.drop 1=M:=by cases M with
   | nil=>rfl
   | cons x r=>rfl
  rw [e1]
  simp -implicitDefEqProofs only [rX,↓reduceIte,Nat.reduceEqDiff,reduceCtorEq,leE,leH,leB,aC,aB,wfE,wfB,wfV,wfL,Int.natCast_one]
 rintro k ⟨hk1,hk⟩
 unfold c155l0
 simp -implicitDefEqProofs only [rX,↓rY,↓reduceIte,Nat.reduceEqDiff,reduceCtorEq]
 cases hd:decide ((P.length:Int)+k<P.length+M.length) with
 | false =>
  have hkm:k=max 1 M.length:=by have:=of_decide_eq_false hd;omega
  simp only [kc]
  rw [yad (by omega),yak (by omega),bP]
  simp -implicitDefEqProofs only [rX,aV,a6,leH,leB,aC,aB,wfB,wfV,wfL]
 | true =>
 have hkm:k<M.length:=by have:=of_decide_eq_true hd;omega
 have hPb:Bd M:=hbd
 have hsl:(bJ (M.take k)).length=k:=by rw [bL.length_eq,yac];omega
 have hin:rw2 (P++(bJ (M.take k)++M.drop k)++Q)=rw2 (mid P (bJ (M.take k)) M[k] (M.drop (k+1)++Q) k):=by
  unfold mid
  rw [yat hkm,yad (show (bJ (M.take k)).length≤k by omega),yak (show (bJ (M.take k)).length≤k by omega)]
  simp only [yaf,yaK,yaG]
 rw [hin,kb]
 have hdst:Dst M:=Ia hasc
 have hS:SrL (bJ (M.take k)):=gG (hdst.sublist (yaH k M))
 have hSM:(bJ (M.take k)).Perm (M.take k):=bL
 have hSx:∀ y∈bJ (M.take k),y.1<M[k].1:=by
  intro y hy
  have hy':=hSM.mem_iff.1 hy
  have h0:=hasc
  rw [←yae k M] at h0
  refine (yas.1 h0).2.2 y hy' _ ?_
  rw [yat hkm];exact yaD
 have hSb:Bd (bJ (M.take k)):=fun y hy=>hbd y (ybn (hSM.mem_iff.1 hy))
 have hxb:BdS M[k]:=hbd _ (yaj hkm)
 have hfin:∀ g,g≤k→(∀ y∈(bJ (M.take k)).drop g,lt M[k] y)→(∀ y∈(bJ (M.take k)).take g,lt y M[k])→rw2 (mid P (bJ (M.take k)) M[k] (M.drop (k+1)++Q) g)=rw2 (P++(bJ (M.take (k+1))++M.drop (k+1))++Q):=by
  intro g hg h1 h2
  have e1:M.take (k+1)=M.take k++[M[k]]:=by rw [yav,yah hkm];rfl
  have h0:Dst (M.take k++[M[k]]):=by rw [←e1];exact hdst.sublist (yaH _ M)
  rw [e1,uX hS hSM h0 h1 h2,mid]
  simp
 generalize bJ (M.take k)=S at *
 generalize hx:M[k]=x at *
 refine aT (fun g:Nat=>⟨[(9,.i (P.length+g)),(8,.i (P.length+k)),(0,.sl 0 0 n),(1,.i P.length),(2,.i (P.length+M.length)),(3,.clo 68 [])],[rw2 (mid P S x (M.drop (k+1)++Q) g)],0⟩) (fun g=>g≤k∧∀ y∈S.drop g,lt x y) (fun g=>g) k ⟨yab _,by rw [yak (by omega)];simp⟩ ?_ ?_
 ·simp -implicitDefEqProofs only [rX,↓reduceIte,Nat.reduceEqDiff,reduceCtorEq,leE,leH,leB,aC,aB,wfE,wfB,wfV,wfL]
 rintro g ⟨hg,hgt⟩
 have hml:(mid P S x (M.drop (k+1)++Q) g).length=n:=by simp [mid,hlen];omega
 unfold c155l1
 simp -implicitDefEqProofs only [rX,↓rY,aA,↓reduceIte,Nat.reduceEqDiff,fL,reduceCtorEq,leE,leH,leB,aC,aB,wfE,wfB,wfV,wfL,yal,b6,cF]
 cases hd2:decide ((P.length:Int)<P.length+g) with
 | false =>
  have hg0:g=0:=by have:=of_decide_eq_false hd2;omega
  subst hg0
  simp -implicitDefEqProofs only [↓rY]
  refine ⟨by simp only [lo,Fx.hi];omega,k+1,⟨by omega,by omega⟩,by omega,hfin 0 (by omega) (by simpa using hgt) (by simp)⟩
 | true =>
 have hg1:1≤g:=by have:=of_decide_eq_true hd2;omega
 simp -implicitDefEqProofs only [↓rY,hml]
 have hgS:g-1<S.length:=by omega
 have h1:∀ hh,(mid P S x (M.drop (k+1)++Q) g)[((P.length:Int)+g).toNat]'hh=x:=Me (by omega)
 have h2:∀ hh,(mid P S x (M.drop (k+1)++Q) g)[((P.length:Int)+g-1).toNat]'hh=S[g-1]:=Sg (by omega) hgS
 refine ⟨by omega,by omega,by simp only [lo,Fx.hi];omega,by omega,by omega,?_⟩
 rw [h1,h2]
 have hyb:=hSb _ (yaj hgS)
 have hyx:=hSx _ (yaj hgS)
 refine aE (Qd x S[g-1] hxb hyb) ⟨⟨⟨trivial,trivial,trivial⟩,⟨trivial,trivial,trivial⟩,trivial⟩,⟨rfl,rfl,trivial⟩,⟨rfl,rfl,trivial⟩,trivial⟩ rfl ⟨trivial,trivial⟩ ?_
 have hc:decide (Af x S[g-1]<0)=decide (lt x S[g-1]):=by
  unfold Af lt
  exact decide_eq_decide.2 (by omega)
 simp -implicitDefEqProofs only [rX,↓rY,rdK,aA,cells?,splice,↓reduceIte,Nat.reduceEqDiff,fL,reduceCtorEq,leE,leH,leB,aC,aB,wfE,wfB,wfV,wfL,yal,b6,cF,j1,nM,mN,hc]
 cases hd3:decide (lt x S[g-1]) with
 | false =>
  have hn3:¬lt x S[g-1]:=of_decide_eq_false hd3
  have hl3:lt S[g-1] x:=(uP (.inl hyx)).resolve_right hn3
  simp -implicitDefEqProofs only [↓rY,kc]
  refine ⟨by simp only [lo,Fx.hi];omega,k+1,⟨by omega,by omega⟩,by omega,hfin g hg hgt fun y hy=>?_⟩
  rw [show g=g-1+1 by omega,yav,yah hgS] at hy
  rcases yay.1 hy with hy|hy
  ·refine mJ ?_ hl3
   have h0:=hS
   rw [←yae (g-1) S] at h0
   refine (yas.1 h0).2.2 y hy _ ?_
   rw [yat hgS];exact yaD
  ·simp at hy;subst hy;exact hl3
 | true =>
  have hl3:lt x S[g-1]:=of_decide_eq_true hd3
  simp -implicitDefEqProofs only [↓rY,kb,hml,h1,h2]
  refine ⟨by simp only [lo,Fx.hi];omega,by simp only [lo,Fx.hi];omega,by omega,by omega,by omega,by omega,by omega,by omega,by omega,by simp;omega,by simp only [lo,Fx.hi];omega,g-1,⟨⟨by omega,fun y hy=>?_⟩,by omega⟩,by omega,?_⟩
  ·rw [yat hgS] at hy
   rcases yaA.1 hy with rfl|hy
   ·exact hl3
   ·rw [show g-1+1=g by omega] at hy;exact hgt y hy
  ·exact Ge (Mf (by omega) hgS)
end Go.Fx.H
namespace Go.Fx.H
open Go Go.Fx Go.Proofs Go.Fx.R
set_option maxRecDepth 20000
def swr (P A C B Q:List Sp) (i:Nat):List Sp:=P++((B.take i++A.drop i)++(C++((A.take i++B.drop i)++Q)))
theorem Pr {P A C B Q:List Sp} {i:Nat} (h:A.length=B.length):(swr P A C B Q i).length=P.length+A.length+C.length+B.length+Q.length:=by
 unfold swr
 simp only [yaa,yac,yar]
 omega
theorem Wn {P A C B Q:List Sp} {i:Nat} (h:A.length=B.length) (hi:i<A.length) (hh:((P.length:Int)+i).toNat<(swr P A C B Q i).length):(swr P A C B Q i)[((P.length:Int)+i).toNat]'hh=A[i]:=by
 have e:((P.length:Int)+i).toNat=P.length+i:=by omega
 have hl:(B.take i).length=i:=by rw [yac];omega
 simp only [e,swr]
 rw [yam (by omega),yaw (by simp;omega),yam (by omega)]
 simp [hl]
theorem Wm {P A C B Q:List Sp} {i:Nat} {b:Int} (h:A.length=B.length) (hi:i<A.length) (hb:b=P.length+A.length+C.length) (hh:(b+i).toNat<(swr P A C B Q i).length):(swr P A C B Q i)[(b+i).toNat]'hh=B[i]:=by
 subst hb
 have e:((P.length:Int)+A.length+C.length+i).toNat=P.length+(A.length+(C.length+i)):=by omega
 have hl:(A.take i).length=i:=by rw [yac];omega
 have hl2:(B.take i++A.drop i).length=A.length:=by rw [yaa,yac,yar];omega
 simp only [e,swr]
 rw [yam (by omega),yam (by omega),yam (by omega),yaw (by simp;omega),yam (by omega)]
 simp [hl,hl2]
theorem Ba {α:Type} {A:List α} {i:Nat} (h:i<A.length):∃ A1 A2,A=A1++A[i]::A2∧A1.length=i :=
 ⟨A.take i,A.drop (i+1),by rw [←yat h,yae],by rw [yac];omega⟩
theorem Rw {P A1 A2 C B1 B2 Q:List Sp} {x y:Sp} {i:Nat} (h1:A1.length=i) (h2:B1.length=i):swr P (A1++x::A2) C (B1++y::B2) Q i=P++((B1++x::A2)++(C++((A1++y::B2)++Q))):=by
 subst h1
 unfold swr
 rw [yaI (by omega),yad (show B1.length≤A1.length by omega),yaB (yab _),List.drop_length,yaI (yab _),yaR,yaB (by omega),yak (show B1.length≤A1.length by omega)]
 rfl
theorem Tl {P A1 A2 C B1 B2 Q:List Sp} {x y:Sp} {i:Nat} (h1:A1.length=i) (h2:B1.length=i):swr P (A1++x::A2) C (B1++y::B2) Q (i+1)=P++((B1++y::A2)++(C++((A1++x::B2)++Q))):=by
 have:=Rw (P:=P) (A1:=A1++[x]) (A2:=A2) (C:=C) (B1:=B1++[y]) (B2:=B2) (Q:=Q) (x:=x) (y:=y) (i:=i+1) (by simp [h1]) (by simp [h2])
 unfold swr
 rw [show A1++x::A2=(A1++[x])++A2 by simp,show B1++y::B2=(B1++[y])++B2 by simp]
 rw [yaI (by simp;omega),yad (show (B1++[y]).length≤i+1 by simp;omega),yaB (by simp;omega),yak (show (A1++[x]).length≤i+1 by simp;omega),yaI (by simp;omega),yad (show (A1++[x]).length≤i+1 by simp;omega),yaB (by simp;omega),yak (show (B1++[y]).length≤i+1 by simp;omega)]
 simp
theorem Kr {X Y Z:List Sp} {u v:Sp} {i:Nat} (hX:X.length=i):((X++u::Y)++Z).set i v=(X++v::Y)++Z:=by
 rw [List.set_append_left _ _ (by simp;omega),yaF _ _ (by omega),hX,Nat.sub_self];rfl
theorem oU {X Z:List Sp} {k:Nat} {v:Sp}:(X++Z).set (X.length+k) v=X++Z.set k v:=by
 rw [yaF _ _ (by omega),Nat.add_sub_cancel_left]
theorem Tk {P A C B Q:List Sp} {i:Nat} {b:Int} (h:A.length=B.length) (hi:i<A.length) (hb:b=P.length+A.length+C.length) :
  ((swr P A C B Q i).set ((P.length:Int)+i).toNat (B[i]'(by omega))).set (b+i).toNat A[i]=swr P A C B Q (i+1):=by
 have hiB:i<B.length:=by omega
 obtain ⟨A1,A2,hA,hA1⟩:=Ba hi
 obtain ⟨B1,B2,hB,hB1⟩:=Ba hiB
 have e:((P.length:Int)+i).toNat=P.length+i:=by omega
 have e2:(b+i).toNat=P.length+(A.length+(C.length+i)):=by omega
 have hl3:(B1++B[i]::A2).length=A.length:=by
  have:=congrArg ybd hA
  simp at this ⊢;omega
 rw [e,e2,←hl3]
 generalize A[i]=x at *
 generalize B[i]=y at *
 subst hA hB
 rw [Rw hA1 hB1,Tl hA1 hB1,oU,Kr hB1,oU,oU,oU,Kr hA1]
theorem Ls (P A C B Q:List Sp) (a b:Int) (n:Nat) (hn:n=(P++(A++(C++(B++Q)))).length) (h:n≤100000) (hAB:A.length=B.length) (ha:a=P.length) (hb:b=P.length+A.length+C.length) :
  OkN Tryz.prog 210 [.sl 0 0 n,.i a,.i b,.i A.length,.clo 68 []] [rw2 (P++(A++(C++(B++Q))))] [] (IsA (.tup []) [rw2 (P++(B++(C++(A++Q))))]):=by
 have hlen:n=P.length+A.length+C.length+B.length+Q.length:=by rw [hn];simp;omega
 subst ha
 refine fR pol [0] lw210 (by simp) ⟨trivial,trivial⟩ (fun k hk hm=>by simp at hk ⊢;omega) ?_
 unfold c210
 simp -implicitDefEqProofs only [rX,aA,Nat.reduceAdd,cxN,aL]
 refine aT (fun i:Nat=>⟨[(10,.i i),(0,.sl 0 0 n),(1,.i P.length),(2,.i b),(3,.i A.length)],[rw2 (swr P A C B Q i)],0⟩) (fun i=>i≤A.length) (fun i=>A.length-i) 0 (yag _) ?_ ?_
 ·have e0:swr P A C B Q 0=P++(A++(C++(B++Q))):=by simp [swr]
  simp -implicitDefEqProofs only [rX,↓reduceIte,Nat.reduceEqDiff,reduceCtorEq,leE,leH,leB,aC,aB,wfE,wfB,wfV,e0,yaO]
 rintro i hi
 have hml:=Pr (P:=P) (A:=A) (C:=C) (B:=B) (Q:=Q) (i:=i) hAB
 unfold c210l0
 simp -implicitDefEqProofs only [rX,↓rY,rdK,aA,cells?,splice,↓reduceIte,Nat.reduceEqDiff,fL,reduceCtorEq,leE,leH,leB,aC,aB,wfE,wfB,wfV,yal,b6,cF,j1,nM,mN]
 cases hd:decide ((i:Int)<A.length) with
 | false =>
  have hie:i=A.length:=by have:=of_decide_eq_false hd;omega
  have e0:swr P A C B Q A.length=P++(B++(C++(A++Q))):=by
   unfold swr
   rw [yad (by omega),yak (by omega),yad (by omega),yak (by omega)]
   simp
  subst hie
  simp -implicitDefEqProofs only [rX,↓rY,aV,a6,leH,leB,aC,aB,wfB,wfV,wfL,kc,bP,e0]
 | true =>
 have hil:i<A.length:=by have:=of_decide_eq_true hd;omega
 simp -implicitDefEqProofs only [↓rY,kb,hml]
 have h1:∀ hh,(swr P A C B Q i)[((P.length:Int)+i).toNat]'hh=A[i]:=Wn hAB hil
 have h2:∀ hh,(swr P A C B Q i)[(b+i).toNat]'hh=B[i]'(by omega):=Wm hAB hil hb
 refine ⟨by simp only [lo,Fx.hi];omega,by simp only [lo,Fx.hi];omega,by simp only [lo,Fx.hi];omega,by omega,by omega,by simp only [lo,Fx.hi];omega,by omega,by omega,by omega,by omega,by omega,by simp;omega,by simp only [lo,Fx.hi];omega,i+1,⟨by omega,by omega⟩,by omega,?_⟩
 rw [h1,h2]
 exact Ge (Tk hAB hil hb)
theorem fK {cx:Cx} {f:FuncId} {args:List V} {e:Env} {b:Nat} {K:V→St→Prop} {L L':List Sp} (xs:List V) (hC:cx.C f xs [rw2 L] [] (IsA (.tup []) [rw2 L'])) (hbn:0∉cx.bn)
  (ha:aM [rw2 L] (pos [0]) args∧wkL xs (aZ [rw2 L] (pos [0]) args)) (keep:aC cx.fx [rw2 L']) (h3:K (.tup []) ⟨e,[rw2 L'],b⟩):eG cx f args ⟨e,[rw2 L],b⟩ K:=by
 refine eF [0] xs (.tup []) (.tup []) [rw2 L] [rw2 L'] [rw2 L'] hC ⟨by simp,fun k hk=>?_⟩ rfl ha (by simp) rfl rfl keep h3
 simp at hk
 subst hk
 exact ⟨by simp,hbn⟩
structure Om (P L R Q p u v q:List Sp):Prop where
 hu:1≤u.length
 hv:1≤v.length
 hp:p.length+u.length=P.length+L.length
 ht:p++(v++(u++q))=P++(R++(L++Q))
abbrev G4:=List Sp × List Sp × List Sp × List Sp
theorem Om.len {P L R Q p u v q:List Sp} (h:Om P L R Q p u v q):p.length+v.length+u.length+q.length=P.length+L.length+R.length+Q.length:=by
 have:=congrArg ybd h.ht
 simp at this;omega
theorem Yf (P L R Q:List Sp) (a m b:Int) (n:Nat) (hn:n=(P++(L++(R++Q))).length) (h:n≤100000) (ha:a=P.length) (hm:m=P.length+L.length) (hb:b=P.length+L.length+R.length) (hL:1≤L.length) (hR:1≤R.length) :
  OkN Tryz.prog 181 [.sl 0 0 n,.i a,.i m,.i b,.clo 68 []] [rw2 (P++(L++(R++Q)))] [] (IsA (.tup []) [rw2 (P++(R++(L++Q)))]):=by
 have hlen:n=P.length+L.length+R.length+Q.length:=by rw [hn];simp;omega
 refine fR pol [0] lw181 (by simp) ⟨trivial,trivial⟩ (fun k hk hm=>by simp at hk ⊢;omega) ?_
 unfold c181
 simp -implicitDefEqProofs only [rX,↓rY,↓reduceIte,Nat.reduceEqDiff,Nat.reduceAdd,reduceCtorEq,cxN,aL]
 refine ⟨by simp only [lo,Fx.hi];omega,by simp only [lo,Fx.hi];omega,?_⟩
 refine aT (fun g:G4=>⟨[(10,.i g.2.1.length),(11,.i g.2.2.1.length),(0,.sl 0 0 n),(2,.i m),(4,.clo 68 [])],[rw2 (g.1++(g.2.1++(g.2.2.1++g.2.2.2)))],0⟩) (fun g=>Om P L R Q g.1 g.2.1 g.2.2.1 g.2.2.2) (fun g=>g.2.1.length+g.2.2.1.length) (P,L,R,Q) ⟨hL,hR,rfl,rfl⟩ ?_ ?_
 ·simp -implicitDefEqProofs only [rX,↓reduceIte,Nat.reduceEqDiff,reduceCtorEq,leE,leH,leB,aC,aB,wfE,wfB,wfV,wfL]
  refine ⟨?_,?_⟩<;>congr 1<;>omega
 rintro ⟨p,u,v,q⟩ hI
 have hIl:=hI.len
 obtain ⟨hu,hv,hp,ht⟩:=hI
 simp only at hu hv hp ht hIl
 have hnn:n=(p++(u++(v++q))).length:=by simp;omega
 unfold c181l0
 simp -implicitDefEqProofs only [rX,↓rY,↓reduceIte,Nat.reduceEqDiff,reduceCtorEq]
 cases hd:((u.length:Int) != v.length) with
 | false =>
  have huv:u.length=v.length:=by
   have:(u.length:Int)=v.length:=by simpa using hd
   omega
  simp -implicitDefEqProofs only [↓rY,kc]
  refine ⟨by simp only [lo,Fx.hi];omega,?_⟩
  have o:=Ls p u [] v q (m-u.length) m n (by simpa using hnn) h huv (by omega) (by simp;omega)
  refine fK _ o (by simp) ⟨⟨trivial,trivial,trivial,trivial,trivial,trivial⟩,rfl,rfl,rfl,rfl,⟨rfl,trivial⟩,trivial⟩ ⟨trivial,trivial⟩ ?_
  simp -implicitDefEqProofs only [rX,aV,a6,leH,leB,aC,aB,wfB,wfV,wfL,bP]
  rw [ht]
 | true =>
 have huv:u.length≠v.length:=by
  have:(u.length:Int)≠v.length:=by simpa using hd
  omega
 simp -implicitDefEqProofs only [↓rY,kb]
 cases hd2:decide ((v.length:Int)<u.length) with
 | true =>
  have hlt:v.length<u.length:=by have:=of_decide_eq_true hd2;omega
  have hu2:u=u.take v.length++u.drop v.length:=(yae _ _).symm
  have hu1l:(u.take v.length).length=v.length:=by rw [yac];omega
  have hu2l:(u.drop v.length).length=u.length-v.length:=by rw [yar]
  have o:=Ls p (u.take v.length) (u.drop v.length) v q (m-u.length) m n (by simp;omega) h hu1l (by omega) (by omega)
  rw [hu1l] at o
  have e1:p++(u.take v.length++(u.drop v.length++(v++q)))=p++(u++(v++q)):=by rw [←yaf (u.take _),←hu2]
  rw [e1] at o
  simp only [kb]
  refine ⟨by simp only [lo,Fx.hi];omega,fK _ o (by simp) ⟨⟨trivial,trivial,trivial,trivial,trivial,trivial⟩,rfl,rfl,rfl,rfl,⟨rfl,trivial⟩,trivial⟩ ⟨trivial,trivial⟩ ?_⟩
  simp -implicitDefEqProofs only [rX,↓rY,↓reduceIte,Nat.reduceEqDiff,reduceCtorEq,leE,leH,leB,aC,aB,wfE,wfB,wfV,wfL]
  have hI':Om P L R Q (p++v) (u.drop v.length) (u.take v.length) q:=by
   refine ⟨by omega,by omega,by rw [yaa];omega,?_⟩
   rw [←ht,yaf,←yaf (u.take _),←hu2]
  refine ⟨by simp only [lo,Fx.hi];omega,(p++v,u.drop v.length,u.take v.length,q),⟨hI',by simp only;omega⟩,⟨by simp only;omega,by simp only;omega⟩,by simp⟩
 | false =>
  have hlt:u.length<v.length:=by have:=of_decide_eq_false hd2;omega
  have hv2:v=v.take (v.length-u.length)++v.drop (v.length-u.length):=(yae _ _).symm
  have hv1l:(v.take (v.length-u.length)).length=v.length-u.length:=by rw [yac];omega
  have hv2l:(v.drop (v.length-u.length)).length=u.length:=by rw [yar];omega
  have o:=Ls p u (v.take (v.length-u.length)) (v.drop (v.length-u.length)) q (m-u.length) (m+v.length-u.length) n (by simp;omega) h (by omega) (by omega) (by omega)
  have e1:p++(u++(v.take (v.length-u.length)++(v.drop (v.length-u.length)++q)))=p++(u++(v++q)):=by rw [←yaf (v.take _),←hv2]
  rw [e1] at o
  simp only [kc]
  refine ⟨by simp only [lo,Fx.hi];omega,by simp only [lo,Fx.hi];omega,by simp only [lo,Fx.hi];omega,fK _ o (by simp) ⟨⟨trivial,trivial,trivial,trivial,trivial,trivial⟩,rfl,rfl,rfl,rfl,⟨rfl,trivial⟩,trivial⟩ ⟨trivial,trivial⟩ ?_⟩
  simp -implicitDefEqProofs only [rX,↓rY,↓reduceIte,Nat.reduceEqDiff,reduceCtorEq,leE,leH,leB,aC,aB,wfE,wfB,wfV,wfL]
  have hI':Om P L R Q p (v.drop (v.length-u.length)) (v.take (v.length-u.length)) (u++q):=by
   refine ⟨by omega,by omega,by omega,?_⟩
   rw [←ht,←yaf (v.take _),←hv2]
  refine ⟨by simp only [lo,Fx.hi];omega,(p,v.drop (v.length-u.length),v.take (v.length-u.length),u++q),⟨hI',by simp only;omega⟩,⟨by simp only;omega,by simp only;omega⟩,rfl⟩
end Go.Fx.H
namespace Go.Fx.H
open Go Go.Fx Go.Proofs Go.Fx.R
set_option maxRecDepth 20000
structure sS (L R:List Sp):Prop where
 hL:SrL L
 hR:SrL R
 sep:∀ x∈L,∀ y∈R,x.1<y.1
 bd:Bd (L++R)
 dst:Dst (L++R)
def So (P L R Q:List Sp):Prop:=∀ (n:Nat) (a m b:Int),n=(P++(L++(R++Q))).length→n≤100000→a=P.length→m=P.length+L.length→b=P.length+L.length+R.length→sS L R→1≤L.length→1≤R.length →
 OkN Tryz.prog 156 [.sl 0 0 n,.i a,.i m,.i b,.clo 68 []] [rw2 (P++(L++(R++Q)))] [] (IsA (.tup []) [rw2 (P++(bJ (L++R)++Q))])
abbrev cM:Cx:=cxN Tryz.prog [0]
theorem c156_parts:c156=.seq (pt 0 c156) (.seq (pt 1 c156) (rt 2 c156)):=by rfl
theorem oT {x:Int} (h0:0≤x) (h:x≤1000000) {K:V→Prop}:b9 .shr .u64 (IntKind.u64.wrap x) 1 K=K (.v (.int .u64 (x/2))):=by
 have e:IntKind.u64.wrap x=x:=by rw [wrap64];omega
 rw [e,Wq]
 have e2:(x.fdiv (2 ^ (min (1:Int).toNat 64)))=x/2:=by
  rw [show (2:Int) ^ (min (1:Int).toNat 64)=2 from rfl,Int.fdiv_eq_ediv_of_nonneg _ (by omega)]
 rw [e2]
 exact propext ⟨fun h=>h.2,fun h=>⟨by decide,h⟩⟩
theorem mT {x:Int} (h0:0≤x) (h:x≤1000000):IntKind.i64.wrap (x/2)=x/2:=iV _ _ (by simp only [lo,Fx.hi];omega)
theorem Zh {P S T:List Sp} {x:Sp} {g c:Nat} {k:Int} (hg:g≤S.length) (hc:c<g) (hk:k=P.length+c) (hh:k.toNat<(mid P S x T g).length):(mid P S x T g)[k.toNat]'hh=S[c]'(by omega):=by
 subst hk
 have e:((P.length:Int)+c).toNat=P.length+c:=by omega
 have hl:(S.take g).length=g:=by rw [yac];omega
 simp only [e,mid]
 rw [yaw (by simp;omega),yam (by omega),yaw (by omega)]
 simp
theorem Sf {P S T:List Sp} {x:Sp} {g c:Nat} {k:Int} (hg:g≤c) (hc:c<S.length) (hk:k=P.length+1+c) (hh:k.toNat<(mid P S x T g).length):(mid P S x T g)[k.toNat]'hh=S[c]:=by
 subst hk
 have e:((P.length:Int)+1+c).toNat=P.length+(g+(1+(c-g))):=by omega
 have hl:(S.take g).length=g:=by rw [yac];omega
 have e2:x::S.drop g=[x]++S.drop g:=rfl
 simp only [e,mid,e2]
 rw [yaw (by simp;omega),yam (by omega),yam (by omega),yam (by simp;omega)]
 simp only [hl,List.getElem_drop,yap]
 congr 1
 omega
theorem Eh {P S T:List Sp} {x:Sp} {g:Nat} {k:Int} (hg:g≤S.length) (hk:k=P.length+g) (hh:k.toNat<(mid P S x T g).length):(mid P S x T g)[k.toNat]'hh=x:=by
 subst hk
 exact Me hg hh
theorem Gz {P S T:List Sp} {x:Sp} {g:Nat}:(mid P S x T g).length=P.length+S.length+1+T.length:=by
 have:(S.take g).length+(S.drop g).length=S.length:=by rw [←yaa,yae]
 unfold mid
 simp only [yaa,ybe]
 omega
theorem Vb {P S T:List Sp} {x:Sp} {g:Nat} {k k1:Int} (hS:g<S.length) (hk:k=P.length+g) (hk1:k1=P.length+g+1):((mid P S x T g).set k.toNat S[g]).set k1.toNat x=mid P S x T (g+1):=by
 subst hk hk1
 have hl:(S.take g).length=g:=by rw [yac];omega
 have e1:((P.length:Int)+g).toNat=(P++S.take g).length:=by rw [yaa,hl];omega
 have e2:((P.length:Int)+g+1).toNat=(P++S.take g).length+1:=by rw [yaa,hl];omega
 have e3:S.take (g+1)=S.take g++[S[g]]:=by rw [yav,yah hS];rfl
 have e4:mid P S x T g=(P++S.take g)++x::S[g]::(S.drop (g+1)++T):=by
  unfold mid;rw [yat hS];simp only [yaf,yaK]
 have e5:mid P S x T (g+1)=(P++S.take g)++S[g]::x::(S.drop (g+1)++T):=by
  unfold mid;rw [e3];simp only [yaf,yaK,yaG]
 rw [e1,e2,e4,e5]
 exact Kq
theorem sX {R:List Sp} {x y:Sp} {h:Nat} (hR:SrL R) (hy:R[h]?=some y) (hl:lt y x):∀ z∈R.take (h+1),lt z x:=by
 intro z hz
 rw [yav,hy] at hz
 rcases yay.1 hz with hz|hz
 ·refine mJ ?_ hl
  have h0:=hR
  rw [←yae h R] at h0
  refine (yas.1 h0).2.2 z hz _ ?_
  exact List.mem_of_getElem? (i:=0) (by rw [List.getElem?_drop];exact hy)
 ·simp at hz;subst hz;exact hl
theorem tF {R:List Sp} {x y:Sp} {h:Nat} (hR:SrL R) (hy:R[h]?=some y) (hl:lt x y):∀ z∈R.drop h,lt x z:=by
 intro z hz
 obtain ⟨hh,rfl⟩:=List.getElem?_eq_some_iff.1 hy
 rw [yat hh] at hz
 rcases yaA.1 hz with rfl|hz
 ·exact hl
 ·refine mJ hl ?_
  have h0:=hR
  rw [←yae h R,yat hh] at h0
  exact (yaq.1 (yas.1 h0).2.1).1 z hz
theorem tP {l m:List Sp} (h:l.Perm m) (hd:Dst m):bJ l=bJ m:=by
 have hd':Dst l:=mO hd h.symm
 exact sY (gG hd) (bL.trans h.symm) hd'
section
variable {P L R Q:List Sp} {x:Sp} {n:Nat} {a m b:Int} {N Z:St→Prop} {X:Nat→St→Prop} {e:Env} {bb:Nat}
structure Rm (n:Nat) (a m b:Int) (e:Env):Prop where
 e0:get e 0=.sl 0 0 n
 e1:get e 1=.i a
 e2:get e 2=.i m
 e3:get e 3=.i b
 e4:get e 4=.clo 68 []
theorem Tz (hn:n=(P++(L++(R++Q))).length) (h:n≤100000) (ha:a=P.length) (hm:m=P.length+L.length) (hb:b=P.length+L.length+R.length) (hI:sS L R) (hL:1≤L.length) (hR:1≤R.length)
  (hE:Rm n a m b e) (hN:∀ e b',Rm n a m b e→2≤L.length→N ⟨e,[rw2 (P++(L++(R++Q)))],b'⟩) (hZ:∀ e b',Z ⟨e,[rw2 (P++(bJ (L++R)++Q))],b'⟩) :
  aw cM (pt 0 c156) N X Z ⟨e,[rw2 (P++(L++(R++Q)))],bb⟩:=by
 obtain ⟨e0,e1,e2,e3,e4⟩:=hE
 have hlen:n=P.length+L.length+R.length+Q.length:=by rw [hn];simp;omega
 conv=>arg 2;whnf
 simp -implicitDefEqProofs only [rX,↓rY,aA,↓reduceIte,Nat.reduceEqDiff,cxN,e1,e2,e3]
 refine ⟨by simp only [lo,Fx.hi];omega,?_⟩
 cases hd:(m-a==1) with
 | false =>
  have:m-a≠1:=by simpa using hd
  simp -implicitDefEqProofs only [↓rY,kc]
  exact hN _ _ ⟨e0,e1,e2,e3,e4⟩ (by omega)
 | true =>
 have h1:L.length=1:=by
  have:m-a=1:=by simpa using hd
  omega
 obtain ⟨x,rfl⟩:∃ x,L=[x]:=by
  match L,h1 with
  | [x],_=>exact ⟨x,rfl⟩
 have e9:P++([x]++(R++Q))=mid P R x Q 0:=by simp [mid]
 rw [e9]
 have hml:=fun g=>Gz (P:=P) (S:=R) (T:=Q) (x:=x) (g:=g)
 have hxb:BdS x:=hI.bd x (by simp)
 simp -implicitDefEqProofs only [↓rY,kb]
 refine aT (fun g:Nat × Nat=>⟨[(10,.i (m+g.1)),(11,.i (m+g.2)),(0,.sl 0 0 n),(1,.i a),(4,.clo 68 [])],[rw2 (mid P R x Q 0)],bb⟩) (fun g=>g.1≤g.2∧g.2≤R.length∧(g.1=0∨∃ y,R[g.1-1]?=some y∧lt y x)∧(g.2=R.length∨∃ y,R[g.2]?=some y∧lt x y)) (fun g=>g.2-g.1) (0,R.length) ⟨yag _,yab _,.inl rfl,.inl rfl⟩ ?_ ?_
 ·simp -implicitDefEqProofs only [rX,↓reduceIte,Nat.reduceEqDiff,reduceCtorEq,leE,leH,leB,aC,aB,wfE,wfB,wfV,wfL,e0,e1,e4]
  simp only [yap] at *
  exact ⟨by omega,by omega⟩
 rintro ⟨i,j⟩ ⟨hij,hj,hi1,hj1⟩
 simp only [yap] at hij hj hi1 hj1 hm hb hlen
 unfold c156l0
 simp -implicitDefEqProofs only [rX,↓rY,aA,↓reduceIte,Nat.reduceEqDiff,fL,reduceCtorEq,yal,b6,cF]
 cases hd2:decide (m+(i:Int)<m+j) with
 | false =>
  have hij2:i=j:=by have:=of_decide_eq_false hd2;omega
  subst hij2
  simp -implicitDefEqProofs only [↓rY,kc]
  have hlow:∀ z∈R.take i,lt z x:=by
   rcases hi1 with h0|⟨y,hy,hl⟩
   ·subst h0;simp
   ·rcases yau i with h0|h0
    ·subst h0;simp
    ·rw [show i=i-1+1 by omega];exact sX hI.hR hy hl
  have hhigh:∀ z∈R.drop i,lt x z:=by
   rcases hj1 with h0|⟨y,hy,hl⟩
   ·rw [yak (by omega)];simp
   ·exact tF hI.hR hy hl
  have hres:rw2 (mid P R x Q i)=rw2 (P++(bJ ([x]++R)++Q)):=by
   have hd':Dst (R++[x]):=mO hI.dst ybo
   rw [tP (m:=R++[x]) ybo hd',uX hI.hR (.refl _) hd' hhigh hlow]
   simp [mid]
  refine aT (fun t:Nat=>⟨[(13,.i (a+t)),(10,.i (m+i)),(0,.sl 0 0 n)],[rw2 (mid P R x Q t)],bb⟩) (fun t=>t≤i) (fun t=>i-t) 0 (yag _) ?_ ?_
  ·simp -implicitDefEqProofs only [rX,↓reduceIte,Nat.reduceEqDiff,reduceCtorEq,leE,leH,leB,aC,aB,wfE,wfB,wfV,yaO,Int.add_zero]
  rintro t ht
  unfold c156l1
  simp -implicitDefEqProofs only [rX,↓rY,rdK,aA,cells?,splice,↓reduceIte,Nat.reduceEqDiff,fL,reduceCtorEq,leE,leH,leB,aC,aB,wfE,wfB,wfV,yal,b6,cF,j1,nM,mN]
  refine ⟨by simp only [lo,Fx.hi];omega,?_⟩
  cases hd3:decide (a+(t:Int)<m+i-1) with
  | false =>
   have hti:t=i:=by have:=of_decide_eq_false hd3;omega
   subst hti
   simp -implicitDefEqProofs only [↓rY,kc]
   rw [hres]
   exact hZ _ _
  | true =>
   have hti:t<R.length:=by have:=of_decide_eq_true hd3;omega
   have hti2:t<i:=by have:=of_decide_eq_true hd3;omega
   simp -implicitDefEqProofs only [↓rY,kb,hml]
   have h1:∀ hh,(mid P R x Q t)[(a+(t:Int)).toNat]'hh=x:=Eh (by omega) (by omega)
   have h2:∀ hh,(mid P R x Q t)[(a+(t:Int)+1).toNat]'hh=R[t]:=Sf (yab _) hti (by omega)
   refine ⟨by simp only [lo,Fx.hi];omega,by simp only [lo,Fx.hi];omega,by omega,by omega,by omega,by omega,by omega,by omega,by omega,by simp [hml];omega,by simp only [lo,Fx.hi];omega,t+1,⟨by omega,by omega⟩,by omega,?_⟩
   rw [h1,h2]
   exact Ge (Vb hti (by omega) (by omega))
 | true =>
 have hij2:i<j:=by have:=of_decide_eq_true hd2;omega
 have hc:(m+(i:Int)+(m+j))/2=m+((i+j)/2:Nat):=by omega
 generalize hcc:(i+j)/2=c at hc
 have hcR:c<R.length:=by omega
 simp -implicitDefEqProofs only [↓rY,kb]
 rw [oT (by omega) (by omega),hc]
 have hw:IntKind.i64.wrap (m+(c:Int))=m+c:=by rw [←hc];exact mT (by omega) (by omega)
 simp -implicitDefEqProofs only [rX,hw,hml]
 refine ⟨by simp only [lo,Fx.hi];omega,by omega,by omega,by omega,by omega,?_⟩
 have h1:∀ hh,(mid P R x Q 0)[(m+(c:Int)).toNat]'hh=R[c]:=Sf (yag _) hcR (by omega)
 have h2:∀ hh,(mid P R x Q 0)[a.toNat]'hh=x :=
  Eh (yag _) (by omega)
 rw [h1,h2]
 have hyb:BdS R[c]:=hI.bd _ (by simp)
 have hsep:=hI.sep x (by simp) R[c] (yaj hcR)
 refine aE (Qd R[c] x hyb hxb) ⟨⟨⟨trivial,trivial,trivial⟩,⟨trivial,trivial,trivial⟩,trivial⟩,⟨rfl,rfl,trivial⟩,⟨rfl,rfl,trivial⟩,trivial⟩ rfl ⟨trivial,trivial⟩ ?_
 have hcm:decide (Af R[c] x<0)=decide (lt R[c] x):=by
  unfold Af lt
  exact decide_eq_decide.2 (by omega)
 have hcy:R[c]?=some R[c]:=yah hcR
 simp -implicitDefEqProofs only [rX,↓rY,aA,↓reduceIte,Nat.reduceEqDiff,reduceCtorEq,leE,leH,leB,aC,aB,wfE,wfB,wfV,wfL,hcm]
 cases hd3:decide (lt R[c] x) with
 | true =>
  have hl3:lt R[c] x:=of_decide_eq_true hd3
  simp only [kb]
  refine ⟨by simp only [lo,Fx.hi];omega,(c+1,j),⟨⟨by simp only;omega,hj,.inr ⟨R[c],hcy,hl3⟩,hj1⟩,by simp only;omega⟩,by simp only;omega,rfl⟩
 | false =>
  have hl3:lt x R[c]:=(uP (.inl hsep)).resolve_right (of_decide_eq_false hd3)
  simp only [kc]
  refine ⟨(i,c),⟨⟨by simp only;omega,by simp only;omega,hi1,.inr ⟨R[c],hcy,hl3⟩⟩,by simp only;omega⟩,rfl,rfl⟩
theorem Ty (hn:n=(P++(L++(R++Q))).length) (h:n≤100000) (ha:a=P.length) (hm:m=P.length+L.length) (hb:b=P.length+L.length+R.length) (hI:sS L R) (hL:1≤L.length) (hR:1≤R.length)
  (hE:Rm n a m b e) (hN:∀ e b',Rm n a m b e→2≤R.length→N ⟨e,[rw2 (P++(L++(R++Q)))],b'⟩) (hZ:∀ e b',Z ⟨e,[rw2 (P++(bJ (L++R)++Q))],b'⟩) :
  aw cM (pt 1 c156) N X Z ⟨e,[rw2 (P++(L++(R++Q)))],bb⟩:=by
 obtain ⟨e0,e1,e2,e3,e4⟩:=hE
 have hlen:n=P.length+L.length+R.length+Q.length:=by rw [hn];simp;omega
 conv=>arg 2;whnf
 simp -implicitDefEqProofs only [rX,↓rY,aA,↓reduceIte,Nat.reduceEqDiff,cxN,e1,e2,e3]
 refine ⟨by simp only [lo,Fx.hi];omega,?_⟩
 cases hd:(b-m==1) with
 | false =>
  have:b-m≠1:=by simpa using hd
  simp -implicitDefEqProofs only [↓rY,kc]
  exact hN _ _ ⟨e0,e1,e2,e3,e4⟩ (by omega)
 | true =>
 have h1:R.length=1:=by
  have:b-m=1:=by simpa using hd
  omega
 obtain ⟨x,rfl⟩:∃ x,R=[x]:=by
  match R,h1 with
  | [x],_=>exact ⟨x,rfl⟩
 have e9:P++(L++([x]++Q))=mid P L x Q L.length:=by simp [mid]
 rw [e9]
 have hml:=fun g=>Gz (P:=P) (S:=L) (T:=Q) (x:=x) (g:=g)
 have hxb:BdS x:=hI.bd x (by simp)
 simp -implicitDefEqProofs only [↓rY,kb]
 refine aT (fun g:Nat × Nat=>⟨[(14,.i (a+g.1)),(15,.i (a+g.2)),(0,.sl 0 0 n),(2,.i m),(4,.clo 68 [])],[rw2 (mid P L x Q L.length)],bb⟩) (fun g=>g.1≤g.2∧g.2≤L.length∧(g.1=0∨∃ y,L[g.1-1]?=some y∧lt y x)∧(g.2=L.length∨∃ y,L[g.2]?=some y∧lt x y)) (fun g=>g.2-g.1) (0,L.length) ⟨yag _,yab _,.inl rfl,.inl rfl⟩ ?_ ?_
 ·simp -implicitDefEqProofs only [rX,↓reduceIte,Nat.reduceEqDiff,reduceCtorEq,leE,leH,leB,aC,aB,wfE,wfB,wfV,wfL,e0,e2,e4]
  exact ⟨by omega,by omega⟩
 rintro ⟨i,j⟩ ⟨hij,hj,hi1,hj1⟩
 simp only [yap] at hij hj hi1 hj1 hm hb hlen
 unfold c156l2
 simp -implicitDefEqProofs only [rX,↓rY,aA,↓reduceIte,Nat.reduceEqDiff,fL,reduceCtorEq,yal,b6,cF]
 cases hd2:decide (a+(i:Int)<a+j) with
 | false =>
  have hij2:i=j:=by have:=of_decide_eq_false hd2;omega
  subst hij2
  simp -implicitDefEqProofs only [↓rY,kc]
  have hlow:∀ z∈L.take i,lt z x:=by
   rcases hi1 with h0|⟨y,hy,hl⟩
   ·subst h0;simp
   ·rcases yau i with h0|h0
    ·subst h0;simp
    ·rw [show i=i-1+1 by omega];exact sX hI.hL hy hl
  have hhigh:∀ z∈L.drop i,lt x z:=by
   rcases hj1 with h0|⟨y,hy,hl⟩
   ·rw [yak (by omega)];simp
   ·exact tF hI.hL hy hl
  have hres:rw2 (mid P L x Q i)=rw2 (P++(bJ (L++[x])++Q)):=by
   rw [uX hI.hL (.refl _) hI.dst hhigh hlow]
   simp [mid]
  refine aT (fun t:Nat=>⟨[(17,.i (P.length+t)),(14,.i (a+i)),(0,.sl 0 0 n)],[rw2 (mid P L x Q t)],bb⟩) (fun t=>i≤t∧t≤L.length) (fun t=>t-i) L.length ⟨hj,yab _⟩ ?_ ?_
  ·simp -implicitDefEqProofs only [rX,↓reduceIte,Nat.reduceEqDiff,reduceCtorEq,leE,leH,leB,aC,aB,wfE,wfB,wfV]
   omega
  rintro t ⟨hit,ht⟩
  unfold c156l3
  simp -implicitDefEqProofs only [rX,↓rY,rdK,aA,cells?,splice,↓reduceIte,Nat.reduceEqDiff,fL,reduceCtorEq,leE,leH,leB,aC,aB,wfE,wfB,wfV,yal,b6,cF,j1,nM,mN]
  cases hd3:decide (a+(i:Int)<P.length+t) with
  | false =>
   have hti:t=i:=by have:=of_decide_eq_false hd3;omega
   subst hti
   simp -implicitDefEqProofs only [↓rY,kc]
   rw [hres]
   exact hZ _ _
  | true =>
   have hti2:i<t:=by have:=of_decide_eq_true hd3;omega
   have hti:t-1<L.length:=by omega
   have h1:∀ hh,(mid P L x Q t)[((P.length:Int)+t).toNat]'hh=x:=Me ht
   have h2:∀ hh,(mid P L x Q t)[((P.length:Int)+t-1).toNat]'hh=L[t-1]:=Sg (by omega) hti
   simp -implicitDefEqProofs only [↓rY,kb,hml,h1,h2]
   refine ⟨by simp only [lo,Fx.hi];omega,by simp only [lo,Fx.hi];omega,by omega,by omega,by omega,by omega,by omega,by omega,by omega,by simp [hml];omega,by simp only [lo,Fx.hi];omega,t-1,⟨⟨by omega,by omega⟩,by omega⟩,by omega,?_⟩
   exact Ge (Mf (by omega) hti)
 | true =>
 have hij2:i<j:=by have:=of_decide_eq_true hd2;omega
 have hc:(a+(i:Int)+(a+j))/2=a+((i+j)/2:Nat):=by omega
 generalize hcc:(i+j)/2=c at hc
 have hcR:c<L.length:=by omega
 simp -implicitDefEqProofs only [↓rY,kb]
 rw [oT (by omega) (by omega),hc]
 have hw:IntKind.i64.wrap (a+(c:Int))=a+c:=by rw [←hc];exact mT (by omega) (by omega)
 simp -implicitDefEqProofs only [rX,hw,hml]
 refine ⟨by simp only [lo,Fx.hi];omega,by omega,by omega,by omega,by omega,?_⟩
 have h1:∀ hh,(mid P L x Q L.length)[(a+(c:Int)).toNat]'hh=L[c]:=Zh (yab _) hcR (by omega)
 have h2:∀ hh,(mid P L x Q L.length)[m.toNat]'hh=x:=Eh (yab _) (by omega)
 rw [h1,h2]
 have hyb:BdS L[c]:=hI.bd _ (by simp)
 have hsep:=hI.sep L[c] (yaj hcR) x (by simp)
 refine aE (Qd x L[c] hxb hyb) ⟨⟨⟨trivial,trivial,trivial⟩,⟨trivial,trivial,trivial⟩,trivial⟩,⟨rfl,rfl,trivial⟩,⟨rfl,rfl,trivial⟩,trivial⟩ rfl ⟨trivial,trivial⟩ ?_
 have hcm:decide (Af x L[c]<0)=decide (lt x L[c]):=by
  unfold Af lt
  exact decide_eq_decide.2 (by omega)
 have hcy:L[c]?=some L[c]:=yah hcR
 simp -implicitDefEqProofs only [rX,↓rY,aA,↓reduceIte,Nat.reduceEqDiff,reduceCtorEq,leE,leH,leB,aC,aB,wfE,wfB,wfV,wfL,hcm]
 cases hd3:decide (lt x L[c]) with
 | false =>
  have hl3:lt L[c] x:=(uP (.inl hsep)).resolve_right (of_decide_eq_false hd3)
  simp only [yaS,kb]
  refine ⟨by simp only [lo,Fx.hi];omega,(c+1,j),⟨⟨by simp only;omega,hj,.inr ⟨L[c],hcy,hl3⟩,hj1⟩,by simp only;omega⟩,by simp only;omega,rfl⟩
 | true =>
  have hl3:lt x L[c]:=of_decide_eq_true hd3
  simp only [yaT,kc]
  refine ⟨(i,c),⟨⟨by simp only;omega,by simp only;omega,hi1,.inr ⟨L[c],hcy,hl3⟩⟩,by simp only;omega⟩,rfl,rfl⟩
end
end Go.Fx.H
namespace Go.Fx.H
open Go Go.Fx Go.Proofs Go.Fx.R
set_option maxRecDepth 20000
section
variable {L R:List Sp} {s e:Nat}
theorem abY (hI:sS L R) (hs:s≤L.length) (he:e≤R.length) (b1:s=0∨e=R.length∨∃ x y,L[s-1]?=some x∧R[e]?=some y∧lt x y) (b2:e=0∨s=L.length∨∃ x y,R[e-1]?=some x∧L[s]?=some y∧lt x y) :
  bJ (L++R)=bJ (L.take s++R.take e)++bJ (L.drop s++R.drop e):=by
 have hp:((L.take s++R.take e)++(L.drop s++R.drop e)).Perm (L++R):=by
  refine List.perm_iff_count.2 fun a=>?_
  have h1:=congrArg (List.count a) (yae s L)
  have h2:=congrArg (List.count a) (yae e R)
  simp only [List.count_append] at *
  omega
 have hd:Dst ((L.take s++R.take e)++(L.drop s++R.drop e)):=mO hI.dst hp.symm
 obtain ⟨hd1,hd2,-⟩:=yas.1 hd
 have c1:∀ u∈L.take s,∀ v∈R.drop e,lt u v:=by
  intro u hu v hv
  rcases b1 with h|h|⟨x,y,hx,hy,hl⟩
  ·subst h;simp at hu
  ·rw [yak (by omega)] at hv;simp at hv
  ·have h0:1≤s:=by
    rcases yau s with h|h
    ·subst h;simp at hu
    ·exact h
   exact tF hI.hR hy (sX hI.hL hx hl u (by rwa [show s-1+1=s by omega])) v hv
 have c2:∀ u∈R.take e,∀ v∈L.drop s,lt u v:=by
  intro u hu v hv
  rcases b2 with h|h|⟨x,y,hx,hy,hl⟩
  ·subst h;simp at hu
  ·rw [yak (by omega)] at hv;simp at hv
  ·have h0:1≤e:=by
    rcases yau e with h|h
    ·subst h;simp at hu
    ·exact h
   exact tF hI.hL hy (sX hI.hR hx hl u (by rwa [show e-1+1=e by omega])) v hv
 have c3:∀ u∈L.take s,∀ v∈L.drop s,lt u v:=by
  have h0:=hI.hL
  rw [←yae s L] at h0
  exact (yas.1 h0).2.2
 have c4:∀ u∈R.take e,∀ v∈R.drop e,lt u v:=by
  have h0:=hI.hR
  rw [←yae e R] at h0
  exact (yas.1 h0).2.2
 refine sY (yas.2 ⟨gG hd1,gG hd2,fun u hu v hv=>?_⟩) ((bL.append bL).trans hp) hI.dst
 have hu':=bL.mem_iff.1 hu
 have hv':=bL.mem_iff.1 hv
 rcases yay.1 hu' with hu'|hu'<;>rcases yay.1 hv' with hv'|hv'
 ·exact c3 u hu' v hv'
 ·exact c1 u hu' v hv'
 ·exact c2 u hu' v hv'
 ·exact c4 u hu' v hv'
theorem sS.sub {L' R':List Sp} (h:sS L R) (h1:L'.Sublist L) (h2:R'.Sublist R):sS L' R' :=
 ⟨h.hL.sublist h1,h.hR.sublist h2,fun x hx y hy=>h.sep x (h1.mem hx) y (h2.mem hy),fun x hx=>h.bd x ((h1.append h2).mem hx),h.dst.sublist (h1.append h2)⟩
theorem sZ {l:List Sp} (h:SrL l) (hd:Dst l):bJ l=l:=sY h (.refl _) hd
end
theorem adG {P L R Q:List Sp} {c:Nat} {k:Int} (hc:c<L.length) (hk:k=P.length+c) (hh:k.toNat<(P++(L++(R++Q))).length):(P++(L++(R++Q)))[k.toNat]'hh=L[c]:=by
 subst hk
 have e:((P.length:Int)+c).toNat=P.length+c:=by omega
 simp only [e]
 rw [yam (by omega),yaw (by omega)]
 simp
theorem adF {P L R Q:List Sp} {c:Nat} {k:Int} (hc:c<R.length) (hk:k=P.length+L.length+c) (hh:k.toNat<(P++(L++(R++Q))).length):(P++(L++(R++Q)))[k.toNat]'hh=R[c]:=by
 subst hk
 have e:((P.length:Int)+L.length+c).toNat=P.length+(L.length+c):=by omega
 simp only [e]
 rw [yam (by omega),yam (by omega),yaw (by omega)]
 simp
theorem c156_parts2:rt 2 c156=.seq (pt 2 c156) (.seq (pt 3 c156) (.seq (pt 4 c156) (.seq (pt 5 c156) (.seq (pt 6 c156) (.seq (pt 7 c156) (.seq (pt 8 c156) (.seq (pt 9 c156) (.seq (pt 10 c156) (rt 11 c156))))))))):=by rfl
section
variable {P L R Q:List Sp} {n w:Nat} {a m b:Int} {N Z:St→Prop} {X:Nat→St→Prop} {e:Env} {bb:Nat}
structure E2 (n:Nat) (a m b:Int) (w:Nat) (e:Env):Prop where
 e0:get e 0=.sl 0 0 n
 e1:get e 1=.i a
 e2:get e 2=.i m
 e3:get e 3=.i b
 e4:get e 4=.clo 68 []
 e18:get e 18=.i (a+w)
 e19:get e 19=.i (a+w+m)
def B1 (L R:List Sp) (w lo i:Nat):Prop:=i=lo∨∃ x y,L[i-1]?=some x∧R[w-i]?=some y∧lt x y
def B2 (L R:List Sp) (w hi j:Nat):Prop:=j=hi∨∃ x y,R[w-1-j]?=some x∧L[j]?=some y∧lt x y
theorem Tx (hn:n=(P++(L++(R++Q))).length) (h:n≤100000) (ha:a=P.length) (hm:m=P.length+L.length) (hb:b=P.length+L.length+R.length) (hI:sS L R) (hL:1≤L.length) (hR:1≤R.length) (hw:(L.length+R.length)/2=w)
  (hE:E2 n a m b w e) (e20:get e 20=.i (a+(w-R.length:Nat))) (e21:get e 21=.i (a+(min w L.length:Nat))) (e22:get e 22=.i (a+w+m-1))
  (hN:∀ e b' s,E2 n a m b w e→get e 20=.i (a+(s:Nat))→s≤w→w-R.length≤s→s≤L.length→B1 L R w (w-R.length) s→B2 L R w (min w L.length) s→N ⟨e,[rw2 (P++(L++(R++Q)))],b'⟩) :
  aw cM (pt 7 c156) N X Z ⟨e,[rw2 (P++(L++(R++Q)))],bb⟩:=by
 obtain ⟨e0,e1,e2,e3,e4,e18,e19⟩:=hE
 have hlen:n=P.length+L.length+R.length+Q.length:=by rw [hn];simp;omega
 conv=>arg 2;whnf
 simp -implicitDefEqProofs only [rX,cxN]
 refine aT (fun g:Nat × Nat=>⟨[(20,.i (a+g.1)),(21,.i (a+g.2)),(22,.i (a+w+m-1)),(0,.sl 0 0 n),(1,.i a),(2,.i m),(3,.i b),(4,.clo 68 []),(18,.i (a+w)),(19,.i (a+w+m))],[rw2 (P++(L++(R++Q)))],bb⟩) (fun g=>w-R.length≤g.1∧g.1≤g.2∧g.2≤min w L.length∧B1 L R w (w-R.length) g.1∧B2 L R w (min w L.length) g.2) (fun g=>g.2-g.1) (w-R.length,min w L.length) ⟨yab _,by simp only;omega,yab _,.inl rfl,.inl rfl⟩ ?_ ?_
 ·simp -implicitDefEqProofs only [rX,leE,leH,leB,aC,aB,wfE,wfB,wfV,wfL,e0,e1,e2,e3,e4,e18,e19,e20,e21,e22]
 rintro ⟨i,j⟩ ⟨hi0,hij,hj,hi1,hj1⟩
 simp only at hi0 hij hj hi1 hj1
 unfold c156l4
 simp -implicitDefEqProofs only [rX,↓rY,aA,↓reduceIte,Nat.reduceEqDiff,fL,reduceCtorEq,yal,b6,cF]
 cases hd2:decide (a+(i:Int)<a+j) with
 | false =>
  have hij2:i=j:=by have:=of_decide_eq_false hd2;omega
  subst hij2
  simp -implicitDefEqProofs only [↓rY,kc]
  exact hN _ _ i ⟨rfl,rfl,rfl,rfl,rfl,rfl,rfl⟩ rfl (by omega) (by omega) (by omega) hi1 hj1
 | true =>
 have hij2:i<j:=by have:=of_decide_eq_true hd2;omega
 have hc:(a+(i:Int)+(a+j))/2=a+((i+j)/2:Nat):=by omega
 generalize hcc:(i+j)/2=c at hc
 have hcL:c<L.length:=by omega
 have hcR:w-1-c<R.length:=by omega
 simp -implicitDefEqProofs only [↓rY,kb]
 rw [oT (by omega) (by omega),hc]
 have hw2:IntKind.i64.wrap (a+(c:Int))=a+c:=by rw [←hc];exact mT (by omega) (by omega)
 simp -implicitDefEqProofs only [rX,hw2]
 refine ⟨by simp only [lo,Fx.hi];omega,by simp only [lo,Fx.hi];omega,by omega,by omega,by omega,by omega,?_⟩
 have h1:∀ hh,(P++(L++(R++Q)))[(a+(w:Int)+m-1-(a+c)).toNat]'hh=R[w-1-c]:=adF hcR (by omega)
 have h2:∀ hh,(P++(L++(R++Q)))[(a+(c:Int)).toNat]'hh=L[c]:=adG hcL (by omega)
 rw [h1,h2]
 have hyb:BdS R[w-1-c]:=hI.bd _ (by simp)
 have hxb:BdS L[c]:=hI.bd _ (by simp)
 have hsep:=hI.sep L[c] (yaj hcL) R[w-1-c] (yaj hcR)
 refine aE (Qd R[w-1-c] L[c] hyb hxb) ⟨⟨⟨trivial,trivial,trivial⟩,⟨trivial,trivial,trivial⟩,trivial⟩,⟨rfl,rfl,trivial⟩,⟨rfl,rfl,trivial⟩,trivial⟩ rfl ⟨trivial,trivial⟩ ?_
 have hcm:decide (Af R[w-1-c] L[c]<0)=decide (lt R[w-1-c] L[c]):=by
  unfold Af lt
  exact decide_eq_decide.2 (by omega)
 have hcy:L[c]?=some L[c]:=yah hcL
 have hcz:R[w-1-c]?=some R[w-1-c]:=yah hcR
 simp -implicitDefEqProofs only [rX,↓rY,aA,↓reduceIte,Nat.reduceEqDiff,reduceCtorEq,leE,leH,leB,aC,aB,wfE,wfB,wfV,wfL,hcm]
 cases hd3:decide (lt R[w-1-c] L[c]) with
 | false =>
  have hl3:lt L[c] R[w-1-c]:=(uP (.inl hsep)).resolve_right (of_decide_eq_false hd3)
  simp only [yaS,kb]
  refine ⟨by simp only [lo,Fx.hi];omega,(c+1,j),⟨⟨by simp only;omega,by simp only;omega,hj,.inr ⟨L[c],R[w-1-c],hcy,?_,hl3⟩,hj1⟩,by simp only;omega⟩,by simp only;omega,rfl⟩
  rw [←hcz];congr 1;omega
 | true =>
  have hl3:lt R[w-1-c] L[c]:=of_decide_eq_true hd3
  simp only [yaT,kc]
  refine ⟨(i,c),⟨⟨by simp only;omega,by simp only;omega,by simp only;omega,hi1,.inr ⟨R[w-1-c],L[c],hcz,hcy,hl3⟩⟩,by simp only;omega⟩,rfl,rfl⟩
theorem La (hn:n=(P++(L++(R++Q))).length) (h:n≤100000) (ha:a=P.length) (hm:m=P.length+L.length) (hb:b=P.length+L.length+R.length) (hI:sS L R) (hL:2≤L.length) (hR:2≤R.length) (hw:(L.length+R.length)/2=w)
  (ih:∀ z',z'<L.length+R.length→∀ P L R Q,L.length+R.length=z'→So P L R Q)
  (hE:E2 n a m b w e) (e20:get e 20=.i (a+(w-R.length:Nat))) (e21:get e 21=.i (a+(min w L.length:Nat)))
  (hN:∀ e b',N ⟨e,[rw2 (P++(bJ (L++R)++Q))],b'⟩) :
  aw cM (pt 6 c156) (fun s'=>aw cM (.seq (pt 7 c156) (.seq (pt 8 c156) (.seq (pt 9 c156) (.seq (pt 10 c156) (rt 11 c156))))) N X Z s') X Z ⟨e,[rw2 (P++(L++(R++Q)))],bb⟩:=by
 have hE':=hE
 obtain ⟨e0,e1,e2,e3,e4,e18,e19⟩:=hE
 have hlen:n=P.length+L.length+R.length+Q.length:=by rw [hn];simp;omega
 conv=>arg 2;whnf
 simp -implicitDefEqProofs only [rX,↓rY,aA,↓reduceIte,cxN,e19]
 refine ⟨by simp only [lo,Fx.hi];omega,?_⟩
 refine Tx hn h ha hm hb hI (by omega) (by omega) hw ⟨e0,e1,e2,e3,e4,e18,e19⟩ e20 e21 rfl ?_
 rintro e b' s ⟨e0,e1,e2,e3,e4,e18,e19⟩ e20 hs1 hs2 hs3 hB1 hB2
 have e24:a+(w:Int)+m-(a+s)=m+(w-s:Nat):=by omega
 obtain ⟨t,ht⟩:∃ t,w-s=t:=⟨_,rfl⟩
 rw [ht] at e24
 have htR:t≤R.length:=by omega
 have hspl:=abY (s:=s) (e:=t) hI hs3 htR (by
  rcases hB1 with h1|⟨x,y,h1,h2,h3⟩
  ·rcases yau s with h4|h4
   ·exact .inl h4
   ·exact .inr (.inl (by omega))
  ·exact .inr (.inr ⟨x,y,h1,by rw [←ht];exact h2,h3⟩)) (by
  rcases hB2 with h1|⟨x,y,h1,h2,h3⟩
  ·rcases yau t with h4|h4
   ·exact .inl h4
   ·exact .inr (.inl (by omega))
  ·refine .inr (.inr ⟨x,y,?_,h2,h3⟩)
   rw [←h1];congr 1;omega)
 have hL12:=yae s L
 have hR12:=yae t R
 have iA:sS (L.take s) (R.take t):=hI.sub (yaH s L) (yaH t R)
 have iB:sS (L.drop s) (R.drop t):=hI.sub (yaP s L) (yaP t R)
 have lL1:(L.take s).length=s:=by rw [yac];omega
 have lL2:(L.drop s).length=L.length-s:=yar
 have lR1:(R.take t).length=t:=by rw [yac];omega
 have lR2:(R.drop t).length=R.length-t:=yar
 have hin:rw2 (P++(L++(R++Q)))=rw2 ((P++L.take s)++(L.drop s++(R.take t++(R.drop t++Q)))):=by
  conv=>lhs;rw [←hL12,←hR12]
  simp only [yaf]
 rw [hin]
 rw [hspl] at hN
 generalize L.take s=L1 at *
 generalize L.drop s=L2 at *
 generalize R.take t=R1 at *
 generalize R.drop t=R2 at *
 simp -implicitDefEqProofs only [qJ]
 conv=>arg 2;whnf
 simp -implicitDefEqProofs only [rX,↓rY,↓reduceIte,Nat.reduceEqDiff,e19,e20,e24]
 refine ⟨by simp only [lo,Fx.hi];omega,?_⟩
 have dA:bJ (L1++R1)=L1++R1∨(1≤s∧1≤t):=by
  rcases yau s with h0|h0
  ·left
   have:L1=[]:=yaC (by omega)
   subst this
   exact sZ iA.hR iA.dst
  ·rcases yau t with h1|h1
   ·left
    have:R1=[]:=yaC (by omega)
    subst this
    rw [yax]
    exact sZ iA.hL (by simpa using iA.dst)
   ·exact .inr ⟨h0,h1⟩
 have dB:bJ (L2++R2)=L2++R2∨(s<L.length∧t<R.length):=by
  rcases yaU s L.length with h0|h0
  ·rcases yaU t R.length with h1|h1
   ·exact .inr ⟨h0,h1⟩
   ·left
    have:R2=[]:=yaC (by omega)
    subst this
    rw [yax]
    exact sZ iB.hL (by simpa using iB.dst)
  ·left
   have:L2=[]:=yaC (by omega)
   subst this
   exact sZ iB.hR iB.dst
 have hAl:(bJ (L1++R1)).length=s+t:=by rw [bL.length_eq,yaa];omega
 have hr2:∀ e b',E2 n a m b w e→get e 24=.i (m+(t:Nat))→aw cM (rt 11 c156) N X Z ⟨e,[rw2 ((P++bJ (L1++R1))++(L2++(R2++Q)))],b'⟩:=by
  rintro e b' ⟨e0,e1,e2,e3,e4,e18,e19⟩ e24
  have hNB:∀ e b',bJ (L2++R2)=L2++R2→N ⟨e,[rw2 ((P++bJ (L1++R1))++(L2++(R2++Q)))],b'⟩:=by
   intro e b' h0
   have:=hN e b'
   rw [h0] at this
   simpa only [yaf] using this
  conv=>arg 2;whnf
  simp -implicitDefEqProofs only [rX,↓rY,aA,↓reduceIte,Nat.reduceEqDiff,reduceCtorEq,cxN,e0,e3,e4,e18,e24]
  cases hd1:decide (a+(w:Int)<m+t) with
  | false =>
   have h0:=of_decide_eq_false hd1
   simp -implicitDefEqProofs only [↓rY,kc]
   exact hNB _ _ (dB.resolve_right (by omega))
  | true =>
   have h0:=of_decide_eq_true hd1
   simp -implicitDefEqProofs only [↓rY,kb]
   cases hd2:decide (m+(t:Int)<b) with
   | false =>
    have h1:=of_decide_eq_false hd2
    simp -implicitDefEqProofs only [↓rY,kc]
    exact hNB _ _ (dB.resolve_right (by omega))
   | true =>
    have h1:=of_decide_eq_true hd2
    simp -implicitDefEqProofs only [↓rY,kb]
    have o:=ih (L2.length+R2.length) (by omega) (P++bJ (L1++R1)) L2 R2 Q rfl n (a+w) (m+t) b (by simp only [yaa,hAl];omega) h (by rw [yaa,hAl];omega) (by rw [yaa,hAl];omega) (by rw [yaa,hAl];omega) iB (by omega) (by omega)
    refine fK _ o (by simp) ⟨⟨trivial,trivial,trivial,trivial,trivial,trivial⟩,rfl,rfl,rfl,rfl,⟨rfl,trivial⟩,trivial⟩ ⟨trivial,trivial⟩ ?_
    simp -implicitDefEqProofs only [rX]
    have:=hN
    simp only [yaf] at this ⊢
    exact this _ _
 have hrest:∀ e b',E2 n a m b w e→get e 20=.i (a+(s:Nat))→get e 24=.i (m+(t:Nat))→aw cM (pt 10 c156) (fun s'=>aw cM (rt 11 c156) N X Z s') X Z ⟨e,[rw2 ((P++L1)++(R1++(L2++(R2++Q))))],b'⟩:=by
  rintro e b' ⟨e0,e1,e2,e3,e4,e18,e19⟩ e20 e24
  have hNA:∀ e b',bJ (L1++R1)=L1++R1→E2 n a m b w e→get e 24=.i (m+(t:Nat))→aw cM (rt 11 c156) N X Z ⟨e,[rw2 ((P++L1)++(R1++(L2++(R2++Q))))],b'⟩:=by
   intro e b' h0 hE h24
   have:=hr2 e b' hE h24
   rw [h0] at this
   simpa only [yaf] using this
  conv=>arg 2;whnf
  simp -implicitDefEqProofs only [rX,↓rY,aA,↓reduceIte,Nat.reduceEqDiff,reduceCtorEq,cxN,e0,e1,e4,e18,e20]
  cases hd1:decide (a<a+(s:Int)) with
  | false =>
   have h0:=of_decide_eq_false hd1
   simp -implicitDefEqProofs only [↓rY,kc]
   exact hNA _ _ (dA.resolve_right (by omega)) ⟨e0,e1,e2,e3,e4,e18,e19⟩ e24
  | true =>
   have h0:=of_decide_eq_true hd1
   simp -implicitDefEqProofs only [↓rY,kb]
   cases hd2:decide (a+(s:Int)<a+w) with
   | false =>
    have h1:=of_decide_eq_false hd2
    simp -implicitDefEqProofs only [↓rY,kc]
    exact hNA _ _ (dA.resolve_right (by omega)) ⟨e0,e1,e2,e3,e4,e18,e19⟩ e24
   | true =>
    have h1:=of_decide_eq_true hd2
    simp -implicitDefEqProofs only [↓rY,kb]
    have o:=ih (L1.length+R1.length) (by omega) P L1 R1 (L2++(R2++Q)) rfl n a (a+s) (a+w) (by simp only [yaa];omega) h ha (by omega) (by omega) iA (by omega) (by omega)
    rw [yaf]
    refine fK _ o (by simp) ⟨⟨trivial,trivial,trivial,trivial,trivial,trivial⟩,rfl,rfl,rfl,rfl,⟨rfl,trivial⟩,trivial⟩ ⟨trivial,trivial⟩ ?_
    simp -implicitDefEqProofs only [rX]
    rw [←yaf]
    exact hr2 _ _ ⟨e0,e1,e2,e3,e4,e18,e19⟩ e24
 conv=>arg 2;whnf
 simp -implicitDefEqProofs only [rX,↓rY,aA,↓reduceIte,Nat.reduceEqDiff,reduceCtorEq,e0,e2,e4,e20]
 cases hd1:decide (a+(s:Int)<m) with
 | false =>
  have h0:=of_decide_eq_false hd1
  have:L2=[]:=yaC (by omega)
  subst this
  simp -implicitDefEqProofs only [rX,↓rY,kc]
  exact hrest _ _ ⟨e0,e1,e2,e3,e4,e18,e19⟩ e20 rfl
 | true =>
  have h0:=of_decide_eq_true hd1
  simp -implicitDefEqProofs only [↓rY,kb]
  cases hd2:decide (m<m+(t:Int)) with
  | false =>
   have h1:=of_decide_eq_false hd2
   have:R1=[]:=yaC (by omega)
   subst this
   simp -implicitDefEqProofs only [rX,↓rY,kc]
   exact hrest _ _ ⟨e0,e1,e2,e3,e4,e18,e19⟩ e20 rfl
  | true =>
   have h1:=of_decide_eq_true hd2
   simp -implicitDefEqProofs only [↓rY,kb]
   have o:=Yf (P++L1) L2 R1 (R2++Q) (a+s) m (m+t) n (by simp only [yaa];omega) h (by rw [yaa];omega) (by rw [yaa];omega) (by rw [yaa];omega) (by omega) (by omega)
   refine fK _ o (by simp) ⟨⟨trivial,trivial,trivial,trivial,trivial,trivial⟩,rfl,rfl,rfl,rfl,⟨rfl,trivial⟩,trivial⟩ ⟨trivial,trivial⟩ ?_
   simp -implicitDefEqProofs only [rX]
   exact hrest _ _ ⟨e0,e1,e2,e3,e4,e18,e19⟩ e20 rfl
end
theorem Yk:∀ (z:Nat) (P L R Q:List Sp),L.length+R.length=z→So P L R Q:=by
 intro z
 induction z using yaN with
 | ind z ih =>
 intro P L R Q hz n a m b hn h ha hm hb hI hL hR
 have hlen:n=P.length+L.length+R.length+Q.length:=by rw [hn];simp;omega
 refine fR pol [0] lw156 (by simp) ⟨trivial,trivial⟩ (fun k hk hm=>by simp at hk ⊢;omega) ?_
 rw [c156_parts]
 have hret:∀ e b',eK [0] 1 [] (IsA (.tup []) [rw2 (P++(bJ (L++R)++Q))]) ⟨e,[rw2 (P++(bJ (L++R)++Q))],b'⟩:=by
  intro e b'
  rw [bP]
  simp -implicitDefEqProofs only [rX,aV,a6,leH,leB,aC,aB,wfB,wfV,wfL]
 simp -implicitDefEqProofs only [qJ,aL]
 refine Tz hn h ha hm hb hI hL hR ⟨rfl,rfl,rfl,rfl,rfl⟩ (fun e b' hE h2L=>?_) hret
 refine Ty hn h ha hm hb hI hL hR hE (fun e b' hE h2R=>?_) hret
 obtain ⟨e0,e1,e2,e3,e4⟩:=hE
 have hw:(a+b)/2=a+((L.length+R.length)/2:Nat):=by omega
 generalize hww:(L.length+R.length)/2=w at hw
 have hwr:IntKind.i64.wrap (a+(w:Int))=a+w:=by rw [←hw];exact mT (by omega) (by omega)
 rw [c156_parts2]
 simp -implicitDefEqProofs only [qJ]
 conv=>arg 2;whnf
 simp -implicitDefEqProofs only [rX,↓rY,aA,↓reduceIte,Nat.reduceEqDiff,cxN,e1,e3]
 rw [oT (by omega) (by omega),hw]
 simp -implicitDefEqProofs only [rX,hwr]
 refine ⟨by simp only [lo,Fx.hi];omega,?_⟩
 conv=>arg 2;whnf
 simp -implicitDefEqProofs only [rX,↓rY,↓reduceIte,Nat.reduceEqDiff,e2]
 refine ⟨by simp only [lo,Fx.hi];omega,?_⟩
 conv=>arg 2;whnf
 simp -implicitDefEqProofs only [rX,aA]
 conv=>arg 2;whnf
 simp -implicitDefEqProofs only [rX,↓rY,↓reduceIte,Nat.reduceEqDiff,e1,e2,e3]
 cases hd:decide (a+(w:Int)<m) with
 | true =>
  have:=of_decide_eq_true hd
  simp only [kb]
  refine ⟨by simp only [lo,Fx.hi];omega,La hn h ha hm hb hI h2L h2R hww (fun z' hz'=>ih z' (by omega)) ⟨e0,e1,e2,e3,e4,rfl,rfl⟩ ?_ ?_ hret⟩
  ·simp -implicitDefEqProofs only [rX,↓reduceIte,Nat.reduceEqDiff];omega
  ·simp -implicitDefEqProofs only [rX,↓reduceIte];omega
 | false =>
  have:=of_decide_eq_false hd
  simp only [kc]
  refine La hn h ha hm hb hI h2L h2R hww (fun z' hz'=>ih z' (by omega)) ⟨e0,e1,e2,e3,e4,rfl,rfl⟩ ?_ ?_ hret
  ·simp -implicitDefEqProofs only [rX,↓reduceIte,Nat.reduceEqDiff];omega
  ·simp -implicitDefEqProofs only [rX,↓reduceIte];omega
end Go.Fx.H
namespace Go.Fx.H
open Go Go.Fx Go.Proofs Go.Fx.R
set_option maxRecDepth 20000
theorem Zb (G:List Sp) (hG:G.length≤39) (hasc:Asc G) (hbd:Bd G) :
  OkN Tryz.prog 119 [.sl 0 0 G.length,.i G.length,.clo 68 []] [rw2 G] [] (IsA (.tup []) [rw2 (bJ G)]):=by
 refine fR pol [0] lw119 (by simp) ⟨trivial,trivial⟩ (fun k hk hm=>by simp at hk ⊢;omega) ?_
 have hsub:∀ {M},M.Sublist G→Asc M∧Bd M:=fun h=>⟨hasc.sublist h,fun x hx=>hbd x (h.mem hx)⟩
 unfold c119
 simp -implicitDefEqProofs only [rX,aA,↓reduceIte,Nat.reduceEqDiff,Nat.reduceAdd,cxN,aL]
 have hA:∀ k,G.take k++G.drop k=G:=fun k=>yae k G
 refine aT (fun g:Nat=>⟨[(6,.i 20),(7,.i (20*g:Nat)),(8,.i (20*g+20:Nat)),(0,.sl 0 0 G.length),(1,.i G.length),(2,.clo 68 [])],[rw2 (bJ (G.take (20*g))++G.drop (20*g))],1⟩) (fun g=>g≤1∧20*g≤G.length) (fun g=>1-g) 0 ⟨by omega,by omega⟩ ?_ ?_
 ·have e0:bJ (G.take (20*0))++G.drop (20*0)=G:=by simp [bJ]
  rw [e0]
  simp -implicitDefEqProofs only [rX,↓reduceIte,Nat.reduceEqDiff,reduceCtorEq,leE,leH,leB,aC,aB,wfE,wfB,wfV,wfL]
  exact ⟨rfl,rfl⟩
 rintro g ⟨hg,hgl⟩
 unfold c119l0
 simp -implicitDefEqProofs only [rX,↓rY,↓reduceIte,Nat.reduceEqDiff,reduceCtorEq]
 cases hd:decide (((20*g+20:Nat):Int)≤G.length) with
 | true =>
  have hd':=of_decide_eq_true hd
  have hg0:g=0:=by omega
  subst hg0
  have o:=Sd [] (G.take 20) (G.drop 20) 0 20 G.length (by simp) (by omega) rfl (by simp;omega) (hsub (yaH _ _)).1 (hsub (yaH _ _)).2
  have e0:bJ (G.take (20*0))++G.drop (20*0)=[]++G.take 20++G.drop 20:=by simp [bJ]
  rw [e0,kb]
  refine fK _ o (by simp) ⟨⟨trivial,trivial,trivial,trivial,trivial⟩,rfl,rfl,rfl,⟨rfl,trivial⟩,trivial⟩ ⟨trivial,trivial⟩ ?_
  simp -implicitDefEqProofs only [rX,↓rY,↓reduceIte,Nat.reduceEqDiff,reduceCtorEq,leE,leH,leB,aC,aB,wfE,wfB,wfV,wfL]
  exact ⟨by simp only [lo,Fx.hi];omega,1,⟨⟨by omega,by omega⟩,by omega⟩,⟨rfl,rfl⟩,by simp⟩
 | false =>
 have hd':=of_decide_eq_false hd
 have hP:(bJ (G.take (20*g))).length=20*g:=by rw [bL.length_eq,yac];omega
 have o:=Sd (bJ (G.take (20*g))) (G.drop (20*g)) [] (20*g:Nat) G.length G.length (by simp only [yax,yaa,hP,yar];omega) (by omega) (by rw [hP]) (by rw [hP,yar];omega) (hsub (yaP _ _)).1 (hsub (yaP _ _)).2
 simp only [yax] at o
 rw [kc]
 refine fK _ o (by simp) ⟨⟨trivial,trivial,trivial,trivial,trivial⟩,rfl,rfl,rfl,⟨rfl,trivial⟩,trivial⟩ ⟨trivial,trivial⟩ ?_
 simp -implicitDefEqProofs only [rX]
 have hAB:(bJ (G.take (20*g))++bJ (G.drop (20*g))).Perm G:=by
  conv=>rhs;rw [←hA (20*g)]
  exact bL.append bL
 have hdG:Dst G:=Ia hasc
 have hfin:g=0∨G.length=20→bJ (G.take (20*g))++bJ (G.drop (20*g))=bJ G:=by
  rintro (h0|h0)
  ·subst h0;simp [bJ]
  ·rcases yau g with h1|h1
   ·subst h1;simp [bJ]
   ·have:g=1:=by omega
    subst this
    rw [yad (by omega),yak (by omega)];simp [bJ]
 refine aT (fun t:Nat=>⟨[(6,.i (20*t+20:Nat)),(0,.sl 0 0 G.length),(1,.i G.length),(2,.clo 68 [])],[rw2 (if t=0 then bJ (G.take (20*g))++bJ (G.drop (20*g)) else bJ G)],1⟩) (fun t=>t≤1) (fun t=>1-t) 0 (by omega) ?_ ?_
 ·simp -implicitDefEqProofs only [rX,↓reduceIte,Nat.reduceEqDiff,reduceCtorEq,leE,leH,leB,aC,aB,wfE,wfB,wfV,wfL]
  rfl
 rintro t ht
 unfold c119l1
 simp -implicitDefEqProofs only [rX,↓rY,aA,↓reduceIte,Nat.reduceEqDiff,reduceCtorEq]
 cases hd2:decide (((20*t+20:Nat):Int)<G.length) with
 | false =>
  have hd2':=of_decide_eq_false hd2
  simp only [kc,bP]
  simp -implicitDefEqProofs only [rX,aV,a6,leH,leB,aC,aB,wfB,wfV,wfL]
  rcases yau t with h0|h0
  ·rw [if_pos h0,hfin (by omega)]
  ·rw [if_neg (by omega)]
 | true =>
 have hd2':=of_decide_eq_true hd2
 have ht0:t=0:=by omega
 have hg1:g=1:=by omega
 subst ht0 hg1
 simp -implicitDefEqProofs only [↓rY,↓reduceIte,Nat.mul_one,kb]
 refine ⟨by decide,?_⟩
 have hP2:(bJ (G.take 20)).length=20:=by rw [bL.length_eq,yac];omega
 have hQ2:(bJ (G.drop 20)).length=G.length-20:=by rw [bL.length_eq,yar]
 have hI:sS (bJ (G.take 20)) (bJ (G.drop 20)):=by
  refine ⟨gG (hdG.sublist (yaH _ _)),gG (hdG.sublist (yaP _ _)),fun x hx y hy=>?_,fun x hx=>hbd x (hAB.mem_iff.1 hx),mO hdG hAB.symm⟩
  have h0:=hasc
  rw [←yae 20 G] at h0
  exact (yas.1 h0).2.2 x (bL.mem_iff.1 hx) y (bL.mem_iff.1 hy)
 have o:=Yk _ [] (bJ (G.take 20)) (bJ (G.drop 20)) [] rfl G.length 0 20 G.length (by simp only [yaG,yax,yaa,hP2,hQ2];omega) (by omega) rfl (by rw [hP2];rfl) (by rw [hP2,hQ2,List.length_nil];omega) hI (by omega) (by omega)
 rw [tP hAB hdG] at o
 simp only [yaG,yax] at o
 refine aT (fun t:Nat=>⟨[(6,.i 20),(7,.i 0),(8,.i 40),(0,.sl 0 0 G.length),(1,.i G.length),(2,.clo 68 [])],[rw2 (bJ (G.take 20)++bJ (G.drop 20))],1⟩) (fun t=>True) (fun t=>t) 0 trivial ?_ ?_
 ·simp -implicitDefEqProofs only [rX,↓reduceIte,Nat.reduceEqDiff,reduceCtorEq,leE,leH,leB,aC,aB,wfE,wfB,wfV,wfL]
  exact ⟨rfl,rfl⟩
 rintro t -
 unfold c119l2
 have h40:decide ((40:Int)≤G.length)=false:=decide_eq_false (by omega)
 have h20:decide ((20:Int)<G.length)=true:=decide_eq_true (by omega)
 simp -implicitDefEqProofs only [rX,↓rY,aA,↓reduceIte,Nat.reduceEqDiff,reduceCtorEq,leE,leH,leB,aC,aB,wfE,wfB,wfV,wfL,h40,kc]
 refine ⟨by decide,?_⟩
 rw [show decide ((0:Int)+20<G.length)=true from decide_eq_true (by omega),kb]
 refine fK _ o (by simp) ⟨⟨trivial,trivial,trivial,trivial,trivial,trivial⟩,rfl,rfl,rfl,rfl,⟨rfl,trivial⟩,trivial⟩ ⟨trivial,trivial⟩ ?_
 simp -implicitDefEqProofs only [rX,↓rY,aA,↓reduceIte,Nat.reduceEqDiff,reduceCtorEq,leE,leH,leB,aC,aB,wfE,wfB,wfV,wfL]
 exact ⟨by decide,1,⟨by omega,by omega⟩,rfl,rfl⟩
theorem acU (G:List Sp) (hG:G.length≤39) (hasc:Asc G) (hbd:Bd G) :
  OkN Tryz.prog 67 [.sl 0 0 G.length,.clo 68 []] [rw2 G] [] (IsA (.tup []) [rw2 (bJ G)]):=by
 refine fR pol [0] lw67 (by simp) ⟨trivial,trivial⟩ (fun k hk hm=>by simp at hk ⊢;omega) ?_
 unfold c67
 simp -implicitDefEqProofs only [rX,↓rY,↓reduceIte,Nat.reduceEqDiff,reduceCtorEq,cxN,aL]
 intro _
 refine fK _ (Zb G hG hasc hbd) (by simp) ⟨⟨trivial,trivial,trivial,trivial⟩,rfl,rfl,⟨rfl,trivial⟩,trivial⟩ ⟨trivial,trivial⟩ ?_
 simp -implicitDefEqProofs only [rX,aV,a6,leH,leB,aC,aB,wfB,wfV,wfL,bP]
def Mx (fx:List Nat) (v:V) (r:List Nat) (s:St) (K:St→Prop):Prop :=
 match v with
 | .sl k _ _=>y9 fx k (blk s.h k) s fun s'=>mD fx r s' K
 | _=>mD fx r s K
theorem Vp {fx:List Nat} {s:St} {K:St→Prop}:mD fx [] s K=K s:=rfl
theorem Vq {fx:List Nat} {x:Nat} {r:List Nat} {e:Env} {h:List Blk} {b:Nat} {K:St→Prop}:mD fx (x::r) ⟨e,h,b⟩ K=Mx fx (get e x) r ⟨e,h,b⟩ K:=rfl
theorem Vn {fx:List Nat} {k i n:Nat} {r:List Nat} {e:Env} {h:List Blk} {b:Nat} {K:St→Prop}:Mx fx (.sl k i n) r ⟨e,h,b⟩ K=y9 fx k (blk h k) ⟨e,h,b⟩ fun s'=>mD fx r s' K:=rfl
theorem Vr {fx:List Nat} {k sz:Nat} {els:List (List V)} {e:Env} {h:List Blk} {b:Nat} {K:St→Prop}:y9 fx k (.arr sz els) ⟨e,h,b⟩ K=(k∉fx∧K ⟨y8 k sz els e,(h.map (pH k sz els)).set k .dead,b⟩):=rfl
@[congr] theorem aeD {fx:List Nat} {v v':V} {r:List Nat} {s:St} {K:St→Prop} (q:v=v'):Mx fx v r s K=Mx fx v' r s K:=by rw [q]
@[congr] theorem aeF {fx:List Nat} {k:Nat} {B B':Blk} {s:St} {K:St→Prop} (q:B=B'):y9 fx k B s K=y9 fx k B' s K:=by rw [q]
@[congr] theorem aeE {fx xs:List Nat} {s s':St} {K:St→Prop} (q:s=s'):mD fx xs s K=mD fx xs s' K:=by rw [q]
theorem Lq {cx:Cx} {e:Env} {h:List Blk} {b:Nat} {K:V→St→Prop} {xs:List Nat} {j sz n:Nat} {z:List Value} {ps:List (Nat × Operand)}:aOp cx (.litsf xs j sz n z ps) ⟨e,h,b⟩ K =
  mD (cx.fx++cx.bn) xs ⟨e,h,b⟩ fun s=>cB s.e sz (List.replicate n (z.map .v)) ps fun els=>aD s.h (s.b+j)∧K (.sl (s.b+j) 0 n) { s with h:=s.h.set (s.b+j) (.arr sz els) }:=rfl
theorem Vo {fx:List Nat} {k:Nat} {l:List (List V)} {r:List Nat} {s:St} {K:St→Prop}:Mx fx (.ro k l) r s K=mD fx r s K:=rfl
end Go.Fx.H
namespace Go.Fx.H
open Go Go.Fx Go.Proofs Go.Fx.R
set_option maxRecDepth 20000
def gap (l:List Sp) (i:Nat):Sp:=((l.getD i (0,0)).2,(l.getD (i+1) (0,0)).1)
def y7 (l:List Sp) (k:Nat):List Sp:=(List.range k).map (gap l)
def nE (l:List Sp):List Sp:=y7 l (l.length-1)
theorem Iz {l:List Sp} {k:Nat}:y7 l (k+1)=y7 l k++[gap l k]:=by
 unfold y7;rw [List.range_succ,yaJ];rfl
theorem pE {l:List Sp} {k:Nat}:(y7 l k).length=k:=by simp [y7]
theorem y6 {l:List Sp} {i:Nat} (h:i+1<l.length):gap l i=((l[i]'(by omega)).2,l[i+1].1):=by
 unfold gap
 rw [ybp,ybp,yah h,yah (show i<l.length by omega)]
 rfl
theorem Tt {l:List Sp} (h:Sep l) {i j:Nat} (hij:i<j) (hj:j<l.length):(l[i]'(by omega)).2<l[j].1:=by
 exact ybq.1 h.2 i j (by omega) hj hij
theorem Mv {l:List Sp} (h:Vd l):Asc (nE l):=by
 refine ybq.2 fun i j hi hj hij=>?_
 have hl:(nE l).length=l.length-1:=pE
 have h1:∀ k (hk:k<(nE l).length),(nE l)[k]=gap l k:=fun k hk=>by simp [nE,y7]
 rw [h1 i hi,h1 j hj,y6 (by omega),y6 (by omega)]
 have h2:=Tt h.1 hij (show j<l.length by omega)
 have h3:=h.1.1 _ (yaj (show j<l.length by omega))
 simp only
 omega
theorem Hs {l:List Sp} (h:Vd l):Bd (nE l):=by
 intro s hs
 obtain ⟨i,hi,rfl⟩:=List.mem_map.1 hs
 have hi2:=List.mem_range.1 hi
 rw [y6 (by omega)]
 have h1:=h.2 _ (yaj (show i<l.length by omega))
 have h2:=h.2 _ (yaj (show i+1<l.length by omega))
 simp only
 omega
def Cz (l:List Sp) (most:Int):Int:=if vd l=false∨most<1 then 1 else 0
def Cy (l:List Sp) (most:Int):Nat:=min (nE l).length ((l.length:Int)-most).toNat
def Fj (l:List Sp) (most:Int):List Sp:=if Cz l most≠0 then [] else ofS (l++(bJ (nE l)).take (Cy l most))
theorem adA (l:List Sp) (most:Int) (hl:l.length≤40) (hm:most≤9223372036854775807):Ok 17 [aN l,.i most] (Is (.tup [aN (Fj l most),.i (Cz l most)])):=by
 refine jX (R:=fun q hs=>wk (.tup [aN (Fj l most),.i (Cz l most)]) (gvV (fun _=>true) hs q)) ?_ fun _ _ h=>h
 refine bY lw17 (by simp) ?_
 unfold c17
 simp -implicitDefEqProofs only [rX,aA,↓reduceIte,reduceCtorEq,cxN,aL]
 refine aE (Xy l) ⟨⟨trivial,trivial⟩,⟨rfl,rfl⟩,trivial⟩ rfl trivial ?_
 have hbad:vd l=false∨most<1→∀ e b,get e 4=.v (.slice none 0 0)→get e 5=.v (.int .i64 1)→eK [] 0 [fE.tmp 4,fE.tmp 5] (fun q hs=>wk (.tup [aN (Fj l most),.i (Cz l most)]) (gvV (fun _=>true) hs q)) ⟨e,[],b⟩:=by
  intro hc e b g4 g5
  have e1:Cz l most=1:=if_pos hc
  have e2:Fj l most=[]:=if_pos (by rw [e1];decide)
  rw [eH,e1,e2]
  simp -implicitDefEqProofs only [rX,aV,a6,aC,wfV,wfL,g4,g5]
  refine ⟨([]:List Blk),⟨trivial,yag _,trivial⟩,?_⟩
  simp [gvV,gvL,wk,wkL,wkR]
 cases hv:vd l with
 | false =>
  simp -implicitDefEqProofs only [rX,↓rY,aA,↓reduceIte,Nat.reduceEqDiff]
  exact hbad (.inl hv) _ _ rfl rfl
 | true =>
 simp -implicitDefEqProofs only [rX,↓rY,aA,↓reduceIte,Nat.reduceEqDiff,reduceCtorEq]
 cases hd:decide (most<1) with
 | true =>
  simp -implicitDefEqProofs only [↓rY,kb]
  exact hbad (.inr (of_decide_eq_true hd)) _ _ rfl rfl
 | false =>
 have hm1:=of_decide_eq_false hd
 simp -implicitDefEqProofs only [↓rY,kc]
 have hvd:Vd l:=Ka.1 hv
 have he0:Cz l most=0:=if_neg (by rw [hv];simp;omega)
 have hgl:(nE l).length=l.length-1:=pE
 have hle:Fj l most=ofS (l++(bJ (nE l)).take (Cy l most)):=if_neg (by rw [he0];decide)
 refine eY (.virt 1 2 (by decide) (.nilE 6 0 rfl (.refl _))) (fun k:Nat=>⟨[(7,.i (k+1:Nat)),(6,.sl 0 0 k),(0,aN l),(1,.i most)],[rw2 (y7 l k)],0⟩) (fun k=>k≤l.length-1) (fun k=>l.length-k) 0 (by omega) ?_ ?_
 ·simp -implicitDefEqProofs only [rX,↓reduceIte,Nat.reduceEqDiff,reduceCtorEq,leE,leH,leB,aC,aB,wfE,wfB,wfV,ybc]
  exact ⟨rfl,rfl⟩
 rintro k hk
 unfold c17l0
 simp -implicitDefEqProofs only [rX,↓rY,rdK,aA,cells?,splice,↓reduceIte,Nat.reduceEqDiff,Nat.reduceAdd,reduceCtorEq,aD,bV,cB,leE,leH,leB,aC,aB,wfE,wfB,wfV,aQ,a7,kill,St.kill,isD,Nat.reduceLT,Nat.reduceLeDiff,yal,yan,sE,l7]
 intro _
 cases hd2:decide (((k+1:Nat):Int)<l.length) with
 | true =>
  have hkl:=of_decide_eq_true hd2
  simp -implicitDefEqProofs only [↓rY,kb]
  have e1:((k+1:Nat):Int)-1=k:=by omega
  have e2:(((k+1:Nat):Int)-1).toNat=k:=by omega
  refine ⟨by simp only [lo,Fx.hi];omega,by omega,by omega,by omega,by omega,⟨by rw [pE];exact yab _,by omega⟩,by simp only [lo,Fx.hi];omega,k+1,⟨by omega,by omega⟩,⟨rfl,rfl⟩,?_⟩
  rw [Iz,y6 (by omega),yad (by simp [pE])]
  simp only [e2]
  simp [rw2,enS]
 | false =>
 have hkl:=of_decide_eq_false hd2
 have hkk:k=l.length-1:=by omega
 have hgk:y7 l k=nE l:=by rw [hkk];rfl
 rw [hgk]
 simp -implicitDefEqProofs only [↓rY,kc]
 have o:=acU (nE l) (by omega) (Mv hvd) (Hs hvd)
 rw [hgl,←hkk] at o
 refine fK _ o (by simp) ⟨⟨trivial,trivial,trivial⟩,rfl,⟨rfl,trivial⟩,trivial⟩ trivial ?_
 have ef:max 0 (min (k:Int) ((l.length:Int)-most))=(Cy l most:Nat):=by unfold Cy;omega
 have hfk:Cy l most≤k:=by unfold Cy;omega
 have hsl:(bJ (nE l)).length=k:=by rw [bL.length_eq];omega
 have hsl2:yai k ((bJ (nE l)).map enS)=(bJ (nE l)).map enS:=yad (by simp;omega)
 simp -implicitDefEqProofs only [rX,↓rY,aA,cells?,↓reduceIte,Nat.reduceEqDiff,fL,Nat.reduceAdd,reduceCtorEq,aD,cQ,cB,isD,Nat.reduceLT,yan,Lq,Vp,Vq,Vn,Vo,Vr,y8,mC,uY,pH,ef,hsl,yan,show Int.toNat 0=0 from rfl,yaZ,eq_true hfk,hsl2,←List.map_take,eq_true (show ((Cy l most:Nat):Int)≤(k:Int) by omega)]
 intro _ _
 refine ⟨by simp only [lo,Fx.hi];omega,⟨⟨by omega,by omega⟩,ybf _⟩,?_⟩
 generalize hFF:(bJ (nE l)).take (Cy l most)=F at *
 have hFl:F.length≤40:=by rw [←hFF,yac];omega
 have hmid:Mid (l++F):=by
  intro s hs
  rcases yay.1 hs with hs|hs
  ·have:=hvd.2 s hs;omega
  ·rw [←hFF] at hs
   have:=Hs hvd s (bL.mem_iff.1 (ybn hs));omega
 refine eP [.bro 1 ([l,F].map enL)] (.sl 0 0 (l++F).length) (.sl 2 0 (l++F).length) [.arr 2 ((l++F).map enS)] [.arr 2 ((l++F).map enS)] ?_ ?_ ?_ ?_ ?_ ?_
 ·have:=Xw [l,F] (by simp;omega)
  rw [show [l,F].flatten=l++F by simp] at this
  exact this
 ·simp [aM,bK,aZ,dD,wkL,wk,wkB,blk,enL]
 ·simp [ren]
 ·simp [bO]
 ·trivial
 simp -implicitDefEqProofs only [rX,↓reduceIte]
 refine vH (l++F) rfl (by simp;omega) hmid rfl (by simp) (by simp) trivial ?_
 simp -implicitDefEqProofs only [rX,aA,↓reduceIte,Nat.reduceEqDiff,aV,a6,aC,wfV,wfL,aQ,a7,kill,bE,St.kill,eH]
 rw [hle,he0]
 refine ⟨([]:List Blk),⟨trivial,yag _,trivial⟩,?_⟩
 simp [gvV,gvL,wk,wkL,wkR]
end Go.Fx.H
namespace Go.Fx.H
open Go Go.Fx Go.Proofs Go.Fx.R
set_option maxRecDepth 20000
end Go.Fx.H
namespace Go.Fx.H
open Go Go.Fx Go.Proofs Go.Fx.R
set_option maxRecDepth 20000
abbrev Op:=Int × Int × Bs
abbrev enO (x:Op):List V:=[.i x.1,.i x.2.1,sv x.2.2]
abbrev rO (l:List Op):V:=.ro 3 (l.map enO)
def pe (a b:Bs) (s:Int) (o:V):List V:=us a++(us b++[.i s,o])
section
variable {a b:Bs} {s:Int} {o:V}
theorem gJ (ha:a.length=16) (hb:b.length=16):(pe a b s o).length=34:=by simp [pe,dI,ha,hb]
theorem Xq (ha:a.length=16) (hb:b.length=16):(pe a b s o)[32]?=some (.i s):=by
 unfold pe
 rw [yaz (by rw [dI];omega),yaz (by rw [dI,dI];omega),dI,dI,ha,hb];rfl
theorem Bp (ha:a.length=16) (hb:b.length=16):(pe a b s o)[33]?=some o:=by
 unfold pe
 rw [yaz (by rw [dI];omega),yaz (by rw [dI,dI];omega),dI,dI,ha,hb];rfl
theorem Pz (ha:a.length=16):yai 16 (pe a b s o)=us a:=by
 unfold pe
 rw [yaI (by rw [dI];omega),yad (by rw [dI];omega)]
theorem Xp (ha:a.length=16):yao 16 (pe a b s o)=us b++[.i s,o]:=by
 unfold pe
 rw [yaB (by rw [dI];omega),yak (by rw [dI];omega)];rfl
theorem yP (ho:isC o=true):(pe a b s o).all isC=true:=by
 unfold pe
 rw [List.all_append,iT,List.all_append,iT]
 show (true&&(true&&(isC (.i s)&&(isC o&&true))))=true
 rw [ho];rfl
theorem gC (ha:a.length=16) (hb:b.length=16):yai 34 (pe a b s o)=pe a b s o:=yad (by rw [gJ ha hb];exact yab _)
theorem eU (ha:a.length=16) (hb:b.length=16):yao 34 (pe a b s o)=[]:=yak (by rw [gJ ha hb];exact yab _)
theorem Fv {q:List Blk} {x y:List V}:wfL q (x++y)↔wfL q x∧wfL q y:=by
 induction x with
 | nil=>simp [wfL]
 | cons u r ih=>simp [wfL,ih,and_assoc]
theorem uG {q:List Blk} (ho:wfV q o):wfL q (pe a b s o):=by
 unfold pe
 rw [Fv,Fv]
 exact ⟨dW,dW,by simp [wfL,wfV,ho]⟩
end
theorem Ur (t:Bs) (h:t.length≤100000000000):Ok 70 [sv t] (Is (.agg (us (d7 34 [t])))):=by
 refine bY lw70 (by simp) ?_
 unfold c70
 simp -implicitDefEqProofs only [rX,↓rY,aA,cells?,↓reduceIte,reduceCtorEq,aD,cB,isD,Nat.reduceLT,cxN,nL,aL,w16]
 refine aE (Qc 34 [t] (in1 h)) ⟨⟨trivial,yab 1,trivial⟩,rfl,⟨rfl,rfl⟩,trivial⟩ (by simp [ren,bA]) trivial ?_
 obtain ⟨u1,u2,u3⟩:=fN (bG (k:=34) (l:=[t]))
 obtain ⟨z1,z2,z3⟩:=fN cR
 simp -implicitDefEqProofs only [rX,↓rY,cells?,splice,↓reduceIte,Nat.reduceEqDiff,aV,a6,wfV,u1,u2,z1,z3,iT,dW]
def wgt (l:List Op):Int:=l.foldl (fun n x=>n+(x.2.2.length:Int)) 0
theorem tM {l:List Op} {k:Nat} (h:k<l.length):wgt (l.take (k+1))=wgt (l.take k)+(l[k].2.2.length:Int):=by
 unfold wgt
 rw [yav,yah h,List.foldl_append];rfl
theorem Rq {l:List Op} (h:∀ x∈l,x.2.2.length≤1000000) {k:Nat} (hk:k≤l.length):0≤wgt (l.take k)∧wgt (l.take k)≤1000000*k:=by
 induction k with
 | zero=>simp [wgt]
 | succ k ih =>
  have:=ih (by omega)
  have h2:=h _ (yaj (show k<l.length by omega))
  rw [tM (by omega)]
  omega
theorem Yc (a b:Bs) (s:Int) (l:List Op) (ha:a.length=16) (hb:b.length=16) (hl:l.length≤1000000) (hw:∀ x∈l,x.2.2.length≤1000000):Ok 25 [.agg (pe a b s (rO l))] (Is (.i (wgt l))):=by
 refine bY lw25 (by simp) ?_
 unfold c25
 simp -implicitDefEqProofs only [rX,↓rY,aA,cells?,↓reduceIte,Nat.reduceEqDiff,aD,cxN,aL,Bp,ha,hb]
 intro _
 refine aT (fun k:Nat=>⟨[(9,.i k),(8,.i l.length),(7,rO l),(3,.i (wgt (l.take k)))],[],1⟩) (fun k=>k≤l.length) (fun k=>l.length-k) 0 (yag _) ?_ ?_
 ·simp -implicitDefEqProofs only [rX,↓reduceIte,Nat.reduceEqDiff,leE,leH,aC,wfE,wfB,wfV,yaO,wgt,List.foldl_nil]
 rintro k hk
 unfold c25l0
 simp -implicitDefEqProofs only [rX,↓rY,aA,cells?,splice,↓reduceIte,Nat.reduceEqDiff,Nat.reduceAdd,aD,aV,a6,leE,leH,aC,wfE,wfB,wfV,isC,yal,yan,bR,nL]
 cases hd:decide ((k:Int)<l.length) with
 | false =>
  have hd':=of_decide_eq_false hd
  have:k=l.length:=by omega
  subst this
  simp -implicitDefEqProofs only [↓rY,kc,yaR]
 | true =>
  have hd':=of_decide_eq_true hd
  have hkl:k<l.length:=by omega
  simp only [kb]
  have h1:=Rq hw (k:=k) hk
  have h2:=Rq hw (k:=k+1) (by omega)
  rw [tM hkl] at h2
  refine ⟨⟨by omega,by omega⟩,hkl,?_⟩
  refine ⟨by simp only [lo,Fx.hi];omega,by simp only [lo,Fx.hi];omega,k+1,⟨by omega,by omega⟩,?_⟩
  rw [tM hkl]
  exact ⟨by omega,rfl⟩
theorem Ky {a b:Bs}:(sb a==sb b)=(a==b):=by
 show (a.toArray==b.toArray)=(a==b)
 simp
theorem eqO {x y:Op} {K:Bool→Prop}:(cO (j6 (.agg [.i x.1,.i x.2.1,sv x.2.2])) fun xs=>cO (j6 (.agg [.i y.1,.i y.2.1,sv y.2.2])) fun ys=>eX xs ys [(0,.int .i64),(1,.int .i64),(2,.string)] K)=K (x==y):=by
 have e:(x==y)=((x.1==y.1)&&((x.2.1==y.2.1)&&((x.2.2==y.2.2)&&true))):=by
  obtain ⟨a,b,c⟩:=x
  obtain ⟨a',b',c'⟩:=y
  rw [Bool.and_true];rfl
 rw [e,←Ky]
 exact propext ⟨fun h=>h.2.2.2,fun h=>⟨⟨rfl,rfl⟩,⟨rfl,rfl⟩,⟨rfl,rfl⟩,h⟩⟩
end Go.Fx.H
namespace Go.Fx.H
open Go Go.Fx Go.Proofs Go.Fx.R
set_option maxRecDepth 20000
section
variable {a b:Bs} {s:Int} {o o':V}
theorem xF {M:List Nat} {x y:List V}:bE M (x++y)=bE M x++bE M y:=by
 induction x with
 | nil=>rfl
 | cons u r ih=>simp [bE,ih]
theorem Ln (ha:a.length=16) (hb:b.length=16):yai 33 (pe a b s o)++[o']=pe a b s o':=by
 have e:pe a b s o=(us a++(us b++[.i s]))++[o]:=by simp [pe]
 rw [e,yaI (by simp [dI,ha,hb]),yad (by simp [dI,ha,hb])]
 simp [pe]
theorem gK {M:List Nat}:bE M (pe a b s o)=pe a b s (kill M o):=by
 unfold pe
 rw [xF,xF,oP,oP];rfl
theorem Bl {f:Nat→Option Nat} {x y:List V}:bZ f (x++y)=bZ f x++bZ f y:=by
 induction x with
 | nil=>rfl
 | cons u r ih=>simp [bZ,ih]
theorem iY {f:Nat→Option Nat}:bZ f (pe a b s o)=pe a b s (ren f o):=by
 unfold pe
 rw [Bl,Bl,bA,bA];rfl
end
abbrev rwO (l:List Op):Blk:=.arr 3 (l.map enO)
def flO (o:List Op) (new:Bs) (p i:Nat):List Op:=if p<i then o++[(0,0,(new.take i).drop p)] else o
theorem Xv (a b new:Bs) (s:Int) (l:List Op) (p i:Nat) (ha:a.length=16) (hb:b.length=16) (hl:l.length≤1000000) (hi:i≤new.length) (hn:new.length≤1000000) :
  OkN Tryz.prog 71 [.i i,.ptr 0 0 0,.ptr 1 0 0,.ptr 2 0 0] [.var [.i p],.var (pe a b s (.sl 3 0 l.length)),.var [sv new],rwO l] [3] (IsA (.tup []) [.var [.i p],.var (pe a b s (.sl 3 0 (flO l new p i).length)),.var [sv new],rwO (flO l new p i)]):=by
 refine fR pol [0,1,2] lw71 (by simp) ⟨trivial,trivial,trivial,trivial⟩ (fun k hk hm=>by simp at hk hm ⊢;omega) ?_
 unfold c71
 simp -implicitDefEqProofs only [rX,↓rY,qs,rdK,zC,cells?,splice,↓reduceIte,Nat.reduceEqDiff,Nat.reduceAdd,reduceCtorEq,aD,cQ,bV,cB,aV,a6,leH,leB,leV,dC,aC,aB,wfB,wfV,wfL,aQ,a7,kill,bE,St.kill,isD,isC,Nat.reduceLT,yan,cxN,bR,nL,aL,gJ,Bp,eU,gK,ha,hb,bP]
 cases hd:decide ((p:Int)<i) with
 | false =>
  have hd':=of_decide_eq_false hd
  have e1:flO l new p i=l:=if_neg (by omega)
  rw [kc,e1]
  exact ⟨⟨cP _,rfl⟩,uG (by simp [wfV,aB])⟩
 | true =>
  have hd':=of_decide_eq_true hd
  have e1:flO l new p i=l++[(0,0,(new.take i).drop p)]:=if_pos (by omega)
  rw [kb,e1]
  refine ⟨⟨⟨by omega,by omega⟩,by omega,ybf _⟩,by omega,⟨?_,?_⟩,uG (by simp [wfV,aB])⟩
  ·rw [Ln ha hb,yaa];exact cP _
  ·rw [yad (by simp),iK]
   simp [rwO]
def oC (old:Bs) (b:Nat) (q:Bs):Nat→Option Nat
 | 0=>none
 | j+1=>match oC old b q j with
  | some f=>some f
  | none=>if bk old b j=q∧q.length=b then some (j*b) else none
def fnd (old:Bs) (b:Nat) (q:Bs):Option Nat:=oC old b q (nb old.length b)
theorem xO {old q:Bs} {b:Nat}:∀ {j},oC old b q j=none→∀ i,i<j→¬(bk old b i=q∧q.length=b)
 | 0,_,_,hi=>absurd hi (yaQ _)
 | j+1,h,i,hi=>by
  unfold oC at h
  cases h1:oC old b q j with
  | some f=>rw [h1] at h;cases h
  | none =>
   rw [h1] at h
   simp only at h
   split at h
   ·cases h
   ·rename_i h2
    rcases yaU i j with h3|h3
    ·exact xO h1 i h3
    ·rw [show i=j by omega];exact h2
theorem m7 {old q:Bs} {b f:Nat}:∀ {j},oC old b q j=some f→∃ i,i<j∧f=i*b∧bk old b i=q∧q.length=b
 | 0,h=>by cases h
 | j+1,h=>by
  unfold oC at h
  cases h1:oC old b q j with
  | some g =>
   rw [h1] at h
   cases h
   obtain ⟨i,h2,h3⟩:=m7 h1
   exact ⟨i,by omega,h3⟩
  | none =>
   rw [h1] at h
   simp only at h
   split at h
   ·rename_i h2
    cases h
    exact ⟨j,by omega,rfl,h2⟩
   ·cases h
theorem Hz {old:Bs} {b j:Nat} (h:(bk old b j).length=b) (hb:1≤b):j*b+b≤old.length:=by rw [Ak] at h;omega
def lkp (q:Bs):List (Bs × Nat)→Nat→Option (Nat × V)
 | [],_=>none
 | e::r,i=>if q=e.1 then some (i,.i e.2) else lkp q r (i+1)
def gM (old:Bs) (b:Nat):Nat→List (Bs × Nat)
 | 0=>[]
 | j+1=>if lkp (bk old b j) (gM old b j) 0=none∧(bk old b j).length=b then gM old b j++[(bk old b j,j*b)] else gM old b j
def esV:List (Bs × Nat)→Nat→List (Value × V × Nat)
 | [],_=>[]
 | e::r,i=>(.string (sb e.1),.i e.2,i)::esV r (i+1)
theorem Qq {l:List (Bs × Nat)} {x:Bs × Nat}:∀ {i},esV (l++[x]) i=esV l i++[(.string (sb x.1),.i x.2,i+l.length)]:=by
 induction l with
 | nil=>intro i;rfl
 | cons y r ih =>
  intro i
  show _::esV (r++[x]) (i+1)=_::(esV r (i+1)++_)
  rw [ih,ybe,show i+1+r.length=i+(r.length+1) by omega]
theorem uM {q:Bs}:∀ {l:List (Bs × Nat)} {i n},fP .string (.string (sb q)) (esV l n) i=some (lkp q l i)
 | [],_,_=>rfl
 | e::r,i,n=>by
  have hs:Instr.sameNow .string (.string (sb q)) (.string (sb e.1))=some (decide (q=e.1)):=by
   have e0:(sb q==sb e.1)=decide (q=e.1):=by rw [Ky,Bool.eq_iff_iff];simp
   rw [←e0];rfl
  show (match Instr.sameNow .string (.string (sb q)) (.string (sb e.1)) with
   | some true=>some (some (i,V.i e.2))
   | some false=>fP .string (.string (sb q)) (esV r (n+1)) (i+1)
   | none=>none)=_
  rw [hs]
  unfold lkp
  by_cases h:q=e.1
  ·rw [decide_eq_true h,if_pos h]
  ·rw [decide_eq_false h,if_neg h]
   exact uM
theorem Hg {q:Bs} {x:Bs × Nat}:∀ {l:List (Bs × Nat)} {i},lkp q (l++[x]) i=match lkp q l i with
  | some r=>some r
  | none=>if q=x.1 then some (i+l.length,.i x.2) else none
 | [],i=>rfl
 | e::r,i=>by
  show (if q=e.1 then _ else lkp q (r++[x]) (i+1))=match (if q=e.1 then _ else lkp q r (i+1)) with
   | some r=>some r
   | none=>_
  by_cases h:q=e.1
  ·rw [if_pos h,if_pos h]
  ·rw [if_neg h,if_neg h,Hg,ybe,show i+1+r.length=i+(r.length+1) by omega]
theorem Hf {old q:Bs} {b:Nat}:∀ {j},(lkp q (gM old b j) 0).map (·.2)=(oC old b q j).map fun f=>V.i (f:Nat)
 | 0=>rfl
 | j+1=>by
  have ih:=Hf (old:=old) (q:=q) (b:=b) (j:=j)
  unfold gM oC
  by_cases h:lkp (bk old b j) (gM old b j) 0=none∧(bk old b j).length=b
  ·rw [if_pos h,Hg]
   cases h1:lkp q (gM old b j) 0 with
   | some r =>
    rw [h1] at ih
    cases h2:oC old b q j with
    | none=>rw [h2] at ih;simp at ih
    | some f=>rw [h2] at ih;simpa using ih
   | none =>
    rw [h1] at ih
    cases h2:oC old b q j with
    | some f=>rw [h2] at ih;simp at ih
    | none =>
     simp only
     by_cases h3:q=bk old b j
     ·rw [if_pos h3,if_pos ⟨h3.symm,by rw [h3];exact h.2⟩];rfl
     ·rw [if_neg h3,if_neg (fun h4=>h3 h4.1.symm)];rfl
  ·rw [if_neg h]
   cases h2:oC old b q j with
   | some f=>rw [h2] at ih;simpa using ih
   | none =>
    rw [h2] at ih
    simp only
    rw [if_neg ?_]
    ·exact ih
    ·rintro ⟨h3,h4⟩
     subst h3
     refine h ⟨?_,h4⟩
     cases h5:lkp (bk old b j) (gM old b j) 0 with
     | none=>rfl
     | some r=>rw [h5] at ih;simp at ih
end Go.Fx.H
namespace Go.Fx.H
open Go Go.Fx Go.Proofs Go.Fx.R
set_option maxRecDepth 20000
theorem tJ:[V.v (Value.int IntKind.u8 0),V.v (Value.int IntKind.u8 0),V.v (Value.int IntKind.u8 0),V.v (Value.int IntKind.u8 0),V.v (Value.int IntKind.u8 0),V.v (Value.int IntKind.u8 0),V.v (Value.int IntKind.u8 0),V.v (Value.int IntKind.u8 0),V.v (Value.int IntKind.u8 0),V.v (Value.int IntKind.u8 0),V.v (Value.int IntKind.u8 0),V.v (Value.int IntKind.u8 0),V.v (Value.int IntKind.u8 0),V.v (Value.int IntKind.u8 0),V.v (Value.int IntKind.u8 0),V.v (Value.int IntKind.u8 0),V.v (Value.int IntKind.u8 0),V.v (Value.int IntKind.u8 0),V.v (Value.int IntKind.u8 0),V.v (Value.int IntKind.u8 0),V.v (Value.int IntKind.u8 0),V.v (Value.int IntKind.u8 0),V.v (Value.int IntKind.u8 0),V.v (Value.int IntKind.u8 0),V.v (Value.int IntKind.u8 0),V.v (Value.int IntKind.u8 0),V.v (Value.int IntKind.u8 0),V.v (Value.int IntKind.u8 0),V.v (Value.int IntKind.u8 0),V.v (Value.int IntKind.u8 0),V.v (Value.int IntKind.u8 0),V.v (Value.int IntKind.u8 0),V.v (Value.int IntKind.i64 0),V.v (Value.slice none 0 0)]=pe z16 z16 0 (.v (.slice none 0 0)):=by unfold pe us z16;rfl
section
variable {a b:Bs} {s:Int} {o v:V}
theorem Lo (ha:a.length=16) (hb:b.length=16):yao 32 (pe a b s o)=[.i s,o]:=by
 rw [show 32=16+16 from rfl,←List.drop_drop,Xp ha,yaB (by rw [dI];omega),yak (by rw [dI];omega)];rfl
theorem Ul (ha:a.length=16) (hb:b.length=16):yao 33 (pe a b s o)=[o]:=by
 rw [show 33=32+1 from rfl,←List.drop_drop,Lo ha hb];rfl
theorem Uj (ha:a.length=16) (hb:b.length=16):yai 32 (pe a b s o)=us a++us b:=by
 unfold pe
 rw [←yaf,yaI (by rw [yaa,dI,dI];omega),yad (by rw [yaa,dI,dI];omega)]
theorem r1 {d:Bs} (ha:a.length=16):us d++yao 16 (pe a b s o)=pe d b s o:=by rw [Xp ha];rfl
theorem r2 {d:Bs} (ha:a.length=16) (hb:b.length=16):us a++us d++yao 32 (pe a b s o)=pe a d s o:=by rw [Lo ha hb,yaf];rfl
theorem r3 {n:Int} (ha:a.length=16) (hb:b.length=16):yai 32 (pe a b s o)++[V.v (.int .i64 n)]++yao 33 (pe a b s o)=pe a b n o:=by
 rw [Ul ha hb,Uj ha hb]
 simp [pe]
end
def Dg (o:List Op) (c:Bs):List Op :=
 match o.getLast? with
 | some x=>if x.2.2≠[] then o.dropLast++[(x.1,x.2.1,x.2.2++c)] else o++[(0,0,c)]
 | none=>o++[(0,0,c)]
def oK (o:List Op) (f b:Nat):List Op :=
 match o.getLast? with
 | some x=>if x.2.2=[]∧x.2.1=f then o.dropLast++[(x.1,(f:Int)+b,x.2.2)] else o++[((f:Int),(f:Int)+b,[])]
 | none=>o++[((f:Int),(f:Int)+b,[])]
def pc (new:Bs) (b i:Nat):Bs:=(new.drop i).take b
def gW (old new:Bs) (b i:Nat) (o:List Op):List Op :=
 if i<new.length then
  match fnd old b (pc new b i) with
  | none=>gW old new b (i+1) (Dg o (pc new 1 i))
  | some f=>gW old new b (i+(b-1)+1) (oK o f b)
 else o
termination_by new.length-i
def dfE (old new:Bs) (b:Int):Int:=if b<1∨4096<b then 1 else if 65536<(max old.length new.length:Nat) then 2 else 0
def dig (t:Bs):Bs:=d7 34 [t]
def dfO (old new:Bs) (b:Int):List Op:=if dfE old new b≠0 then [] else gW old new b.toNat 0 []
def dfP (old new:Bs) (b:Int) (o:V):List V:=if dfE old new b≠0 then pe z16 z16 0 o else pe (dig old) (dig new) new.length o
theorem Rx {a b:Bs} {s:Int} {o:V} {M:Nat→Bool} {h:List Blk}:gvL M h (pe a b s o)=pe a b s (gvV M h o):=by
 have app:∀ x y:List V,gvL M h (x++y)=gvL M h x++gvL M h y:=by
  intro x y
  induction x with
  | nil=>rfl
  | cons u r ih=>simp [gvL,ih]
 have ug:∀ l:Bs,gvL M h (us l)=us l:=fun l=>yD _ mU
 unfold pe
 rw [app,app,ug,ug];rfl
theorem Fs {x y x' y':List V} (h1:wkL x x') (h2:wkL y y') (hl:x.length=x'.length):wkL (x++y) (x'++y'):=by
 induction x generalizing x' with
 | nil=>cases x' with
  | nil=>exact h2
  | cons=>simp at hl
 | cons u r ih=>cases x' with
  | nil=>simp at hl
  | cons u' r'=>exact ⟨h1.1,ih h1.2 (by simpa using hl)⟩
theorem Kc {l:Bs}:wkL (us l) (us l):=by
 have h:=(dT (l:=l) (h:=[]) (g:=fun _=>none)).2
 have e:∀ x:List V,(∀ v∈x,∃ u,v=.v u)→aZ [] (fun _=>none) x=x:=by
  intro x hx
  induction x with
  | nil=>rfl
  | cons v r ih =>
   obtain ⟨u,rfl⟩:=hx v yaD
   show V.v u::aZ [] (fun _=>none) r=_
   rw [ih fun w hw=>hx w (yaE _ hw)]
 rwa [e _ mU] at h
theorem Lm {a b:Bs} {s:Int} {o o':V} (h:wk o o'):wkL (pe a b s o) (pe a b s o'):=Fs Kc (Fs Kc ⟨rfl,h,trivial⟩ rfl) rfl
def Cw:LCode→LCode
 | .block _ b=>b
 | c=>c
abbrev cE:Cx:=cxN Tryz.prog []
abbrev h21 (D1 D2 new:Bs) (o:List Op):List Blk:=[.var (pe z16 z16 0 (.v (.slice none 0 0))++[.i 0]),.var (pe D1 D2 new.length (.sl 2 0 o.length)),rwO o]
theorem Um {new:Bs} {b i:Nat}:(pc new b i).length=min b (new.length-i):=by simp [pc]
section
variable {old new D1 D2:Bs} {n i:Nat} {o:List Op} {N R:St→Prop} {X:Nat→St→Prop} {e:Env} {bb:Nat}
theorem set_last {o1:List Op} {x y:Op}:((o1++[x]).map enO).set o1.length (enO y)=(o1++[y]).map enO:=by
 rw [yaJ,yaJ,yaF _ _ (by simp)]
 simp
theorem Df {o:List Op} {x:Op} {c:Bs}:Dg (o++[x]) c=if x.2.2≠[] then o++[(x.1,x.2.1,x.2.2++c)] else (o++[x])++[(0,0,c)]:=by
 unfold Dg
 rw [ybg,ybr]
 simp only [Option.some_or,ybs]
theorem mR {o:List Op} {x:Op} {f b:Nat}:oK (o++[x]) f b=if x.2.2=[]∧x.2.1=f then o++[(x.1,(f:Int)+b,x.2.2)] else (o++[x])++[((f:Int),(f:Int)+b,[])]:=by
 unfold oK
 rw [ybg,ybr]
 simp only [Option.some_or,ybs]
end
end Go.Fx.H
namespace Go.Fx.H
open Go Go.Fx Go.Proofs Go.Fx.R
set_option maxRecDepth 20000
theorem Uk {a b:Bs} {s:Int} {z:Nat} (ha:a.length=16) (hb:b.length=16) {i:Nat} {x y:V} (hx:(pe a b s (.v (.slice none 0 0)))[i]?=some x) (hy:(pe a b s (.sl z 0 0))[i]?=some y):yT x y:=by
 have e:∀ o,pe a b s o=(us a++(us b++[.i s]))++[o]:=fun o=>by simp [pe]
 have hl:(us a++(us b++[V.i s])).length=33:=by simp [dI,ha,hb]
 rw [e] at hx hy
 rcases yaU i 33 with h|h
 ·rw [List.getElem?_append_left (by omega)] at hx hy
  rw [hx] at hy
  exact .inl (Option.some.inj hy).symm
 ·rw [yaz (by omega)] at hx hy
  rcases Nat.eq_or_lt_of_le h with h|h
  ·rw [hl,←h] at hx hy
   simp at hx hy
   subst hx hy
   exact .inr ⟨rfl,_,rfl⟩
  ·rw [List.getElem?_eq_none (by rw [hl];simp;omega)] at hx
   cases hx
theorem Vs {old q:Bs} {b f:Nat} (h:fnd old b q=some f):f+b≤old.length∨b=0:=by
 obtain ⟨j,h1,h2,h3,h4⟩:=m7 h
 rcases yau b with h5|h5
 ·exact .inr h5
 ·left;rw [h2];exact Hz (by rw [h3,h4]) h5
theorem m8 {old new:Bs} {b i:Nat} {o:List Op} (hb:1≤b) (h:i<new.length):gW old new b i o=match fnd old b (pc new b i) with
  | none=>gW old new b (i+1) (Dg o (pc new 1 i))
  | some f=>gW old new b (i+b) (oK o f b):=by
 rw [gW,if_pos h]
 cases fnd old b (pc new b i) with
 | none=>rfl
 | some f=>simp only;rw [show i+(b-1)+1=i+b by omega]
theorem Cr {old new:Bs} {b i:Nat} {o:List Op} (h:new.length≤i):gW old new b i o=o:=by
 rw [gW,if_neg (by omega)]
end Go.Fx.H
namespace Go.Fx.H
open Go Go.Fx Go.Proofs Go.Fx.R
set_option maxRecDepth 20000
theorem c20_parts:c20=.seq (pt 0 c20) (.seq (pt 1 c20) (.seq (pt 2 c20) (.seq (pt 3 c20) (.seq (pt 4 c20) (.seq (pt 5 c20) (.seq (pt 6 c20) (.seq (pt 7 c20) (.seq (pt 8 c20) (rt 9 c20))))))))):=by rfl
abbrev zP:List V:=pe z16 z16 0 (.v (.slice none 0 0))
structure E20 (old:Bs) (e:Env):Prop where
 e0:get e 0=sv old
 e4:get e 4=.ptr 0 0 0
 e5:get e 5=.ptr 1 0 0
 e6:get e 6=.ptr 2 0 0
 e7:get e 7=.i 0
abbrev hpE (old new:Bs) (n:Nat) (j:Nat):List Blk:=[.var [sv new],.var [.i n],.var zP,.map (esV (gM old n j) 0) (gM old n j).length,.var [.mp 3],.var [sv old],.var [.i n],.rcd .ready [(39,.clo 111 [.ptr 5 0 0,.ptr 6 0 0]),(8,.ptr 4 0 0),(0,sv old),(4,.ptr 0 0 0),(5,.ptr 1 0 0),(6,.ptr 2 0 0),(7,.i 0)]]
abbrev Mu (old new:Bs) (n:Nat):List Blk:=[.var [sv new],.var [.i n],.var zP,.map (esV (gM old n (nb old.length n)) 0) (gM old n (nb old.length n)).length,.var [.mp 3],.var [sv old],.var [.i n],.dead]
theorem tH {q:List Blk}:wfL q zP:=uG trivial
theorem xS {q:List Blk}:∀ {l:List (Bs × Nat)} {i:Nat},wfL q ((esV l i).map (·.2.1)):=by
 intro l
 induction l with
 | nil=>intro i;trivial
 | cons x r ih=>intro i;exact ⟨trivial,ih⟩
theorem itM (old new:Bs) (n:Nat) (hb:1≤n∧n≤1000000000) (ht:old.length≤1000000000):ItB (hpE old new n) 8 old n 7 5 6 [7]:=by
 refine ⟨hb,ht,fun g=>rfl,fun g tl=>rfl,fun g tl=>rfl,fun g=>⟨trivial,trivial⟩,fun g=>?_,fun g=>⟨_,_,rfl⟩⟩
 simp -implicitDefEqProofs only [rX,aB,wfE,wfB,wfV,wfL,tH]
 exact xS
section
variable {old new:Bs} {n:Nat} {N R:St→Prop} {X:Nat→St→Prop} {e:Env} {bb:Nat}
theorem Ww (hn:1≤n) (hn2:n≤4096) (h1:old.length≤1000) (h2:new.length≤1000) (hE:E20 old e)
  (hN:∀ e b',E20 old e→get e 8=.ptr 4 0 0→N ⟨e,Mu old new n,b'⟩):aw cE (pt 2 c20) (fun s'=>aw cE (pt 3 c20) N X R s') X R ⟨e,[.var [sv new],.var [.i n],.var zP],3⟩:=by
 obtain ⟨e0,e4,e5,e6,e7⟩:=hE
 conv=>arg 2;whnf
 simp -implicitDefEqProofs only [rX,↓rY,aA,cells?,splice,↓reduceIte,Nat.reduceEqDiff,Nat.reduceAdd,aD,isC,cxN]
 conv=>arg 2;whnf
 simp -implicitDefEqProofs only [rX,↓rY,↓reduceIte,Nat.reduceEqDiff,Nat.reduceAdd,reduceCtorEq,e0,e5]
 refine eP [sv old,.i n] (.clo 111 [.ptr 0 0 0,.ptr 1 0 0]) (.clo 111 [.ptr 5 0 0,.ptr 6 0 0]) [.var [sv old],.var [.i n]] [.var [sv old],.var [.i n]] (Us old n) ⟨⟨trivial,trivial,trivial⟩,rfl,rfl,trivial⟩ (by simp [ren,bZ]) (by simp [bO,bZ,ren]) trivial ?_
 simp -implicitDefEqProofs only [rX]
 refine tZ 7 rfl rfl trivial ?_
 refine pO (as':=[.itr 7,.ptr 5 0 0,.ptr 6 0 0]) (h':=hpE old new n 0) rfl ⟨_,.refl _,?_⟩ (Mn (Inv:=fun i g=>g=i) (itM old new n (by omega) (by omega)) ?_ ?_ _ rfl)
 ·simp -implicitDefEqProofs only [rX,↓reduceIte,Nat.reduceEqDiff,Nat.reduceAdd,reduceCtorEq,leE,leH,leB,leV,dC,aC,aB,wfE,wfB,wfV,wfL,aL,e0,e4,e5,e6,e7,tH]
  exact ⟨⟨cP _,rfl,.inr trivial⟩,xS⟩
 ·rintro i g hi rfl e2 bb Z he hZ
  refine Aq 8 rfl rfl rfl ?_
  unfold c20a0
  simp -implicitDefEqProofs only [rX,rZ,↓rW,↓reduceIte,Nat.reduceEqDiff,Nat.reduceAdd,gO]
  unfold c20r0
  simp -implicitDefEqProofs only [rX,↓rY,rZ,↓rW,zq,zt,aA,↓reduceIte,Nat.reduceEqDiff,Nat.reduceAdd,reduceCtorEq,↓jl,↓jo,bR]
  rw [uM]
  refine ⟨rfl,?_⟩
  have hnx:∀ B tl,B=.map (esV (gM old n (g+1)) 0) (gM old n (g+1)).length→Z (.b true) ⟨e2,[.var [sv new],.var [.i n],.var zP,B,.var [.mp 3],.var [sv old],.var [.i n],.rcd .ready [(39,.clo 111 [.ptr 5 0 0,.ptr 6 0 0]),(8,.ptr 4 0 0),(0,sv old),(4,.ptr 0 0 0),(5,.ptr 1 0 0),(6,.ptr 2 0 0),(7,.i 0)]]++tl,bb⟩:=by
   rintro B tl rfl
   exact hZ e2 (g+1) tl he rfl
  cases hl:lkp (bk old n g) (gM old n g) 0 with
  | some r =>
   have e1:gM old n (g+1)=gM old n g:=by
    rw [gM,if_neg (by rw [hl];simp)]
   simp -implicitDefEqProofs only [rX,↓rY,eZ,↓reduceIte,kc]
   exact hnx _ [_] (by rw [e1])
  | none =>
   simp -implicitDefEqProofs only [rX,↓rY,aA,↓jq,↓jr,kb]
   cases hb2:(((bk old n g).length:Int)==n) with
   | false =>
    have hne:(bk old n g).length≠n:=by
     have:((bk old n g).length:Int)≠n:=by simpa using hb2
     omega
    have e1:gM old n (g+1)=gM old n g:=by
     rw [gM,if_neg (fun h=>hne h.2)]
    rw [kc]
    exact hnx _ [_] (by rw [e1])
   | true =>
    have hne:(bk old n g).length=n:=by
     have:((bk old n g).length:Int)=n:=by simpa using hb2
     omega
    have e1:gM old n (g+1)=gM old n g++[(bk old n g,g*n)]:=by
     rw [gM,if_pos ⟨hl,hne⟩]
    rw [kb]
    refine ⟨rfl,hnx _ [_] ?_⟩
    rw [e1,Qq,yaa,Nat.zero_add]
    rfl
 ·rintro g rfl
  simp -implicitDefEqProofs only [rX,rZ,↓rW,aB,wfE,wfB,wfV,wfL,tH]
  exact ⟨xS,hN _ _ ⟨rfl,rfl,rfl,rfl,rfl⟩ rfl⟩
end
end Go.Fx.H
namespace Go.Fx.H
open Go Go.Fx Go.Proofs Go.Fx.R
set_option maxRecDepth 20000
abbrev hQ (old new D1 D2:Bs) (n p:Nat) (o:List Op):List Blk:=Mu old new n++[.var (pe D1 D2 new.length (.sl 10 0 o.length)),.var [.i p],rwO o]
section
variable {old new:Bs} {n:Nat} {N R:St→Prop} {X:Nat→St→Prop} {e:Env} {bb:Nat}
set_option maxHeartbeats 1000000 in
theorem Wv (h1:old.length≤1000) (h2:new.length≤1000) (hE:E20 old e) (e8:get e 8=.ptr 4 0 0)
  (hN:∀ e b' D1 D2,D1=dig old→D2=dig new→E20 old e→get e 8=.ptr 4 0 0→get e 13=.ptr 8 0 0→N ⟨e,Mu old new n++[.var (pe D1 D2 new.length (.v (.slice none 0 0)))],b'⟩):aw cE (pt 4 c20) N X R ⟨e,Mu old new n,bb⟩:=by
 obtain ⟨e0,e4,e5,e6,e7⟩:=hE
 conv=>arg 2;whnf
 have o1:=Ur old (by omega)
 have o2:=Ur new (by omega)
 have d1:(dig old).length=16:=bG
 have d2:(dig new).length=16:=bG
 rw [show d7 34 [old]=dig old from rfl] at o1
 rw [show d7 34 [new]=dig new from rfl] at o2
 have hN':=fun e b'=>hN e b' (dig old) (dig new) rfl rfl
 generalize dig old=D1 at *
 generalize dig new=D2 at *
 simp -implicitDefEqProofs only [rX,↓rY,qg,rdK,aA,cells?,↓reduceIte,Nat.reduceEqDiff,Nat.reduceAdd,aD,cxN,bR,e0,e4,tJ]
 refine ⟨?_,?_⟩
 ·refine aE o1 ⟨⟨trivial,trivial⟩,rfl,trivial⟩ (by simp [ren,bA]) trivial ?_
  simp -implicitDefEqProofs only [rX,↓rY,aA,cells?,↓reduceIte,Nat.reduceEqDiff,aD,tJ]
  refine ⟨?_,?_⟩
  ·refine aE o2 ⟨⟨trivial,trivial⟩,rfl,trivial⟩ (by simp [ren,bA]) trivial ?_
   simp -implicitDefEqProofs only [rX,↓rY,aA,cells?,splice,↓reduceIte,Nat.reduceEqDiff,Nat.reduceAdd,aD,bV,Nat.reduceLeDiff,tJ,gJ,Pz,eU,cR,d1,d2,r1,r2,r3,p_l,yar,yac,ybh,Nat.reduceAdd,show min 16 34=16 from rfl,show min 32 34=32 from rfl]
   refine ⟨yP rfl,hN' _ _ ?_ ?_ ?_⟩
   ·exact ⟨e0,e4,e5,e6,e7⟩
   ·exact e8
   ·rfl
  ·refine aE o2 ⟨⟨trivial,trivial⟩,rfl,trivial⟩ (by simp [ren,bA]) trivial ?_
   simp -implicitDefEqProofs only [rX,↓rY,cells?,splice,↓reduceIte,Nat.reduceEqDiff,Nat.reduceAdd,bV,Nat.reduceLeDiff,tJ,gJ,Pz,eU,cR,d1,d2,r1,r2,r3,p_l,yar,yac,ybh,Nat.reduceAdd,show min 16 34=16 from rfl,show min 32 34=32 from rfl]
   refine ⟨yP rfl,hN' _ _ ?_ ?_ ?_⟩
   ·exact ⟨e0,e4,e5,e6,e7⟩
   ·exact e8
   ·rfl
 ·refine aE o1 ⟨⟨trivial,trivial⟩,rfl,trivial⟩ (by simp [ren,bA]) trivial ?_
  simp -implicitDefEqProofs only [rX,↓reduceIte,Nat.reduceEqDiff]
  refine aE o2 ⟨⟨trivial,trivial⟩,rfl,trivial⟩ (by simp [ren,bA]) trivial ?_
  simp -implicitDefEqProofs only [rX,↓rY,cells?,splice,↓reduceIte,Nat.reduceEqDiff,Nat.reduceAdd,bV,Nat.reduceLeDiff,tJ,gJ,Pz,eU,cR,d1,d2,r1,r2,r3,p_l,yar,yac,ybh,Nat.reduceAdd,show min 16 34=16 from rfl,show min 32 34=32 from rfl]
  refine ⟨yP rfl,hN' _ _ ?_ ?_ ?_⟩
  ·exact ⟨e0,e4,e5,e6,e7⟩
  ·exact e8
  ·rfl
theorem c20l0_parts:c20l0=.seq (pt 0 c20l0) (.block 4 (.seq (pt 0 (Cw (rt 1 c20l0))) (.seq (pt 1 (Cw (rt 1 c20l0))) (.seq (pt 2 (Cw (rt 1 c20l0))) (.seq (pt 3 (Cw (rt 1 c20l0))) (.seq (pt 4 (Cw (rt 1 c20l0))) (rt 5 (Cw (rt 1 c20l0))))))))):=by rfl
structure E2L (i:Nat) (e:Env):Prop where
 e4:get e 4=.ptr 0 0 0
 e5:get e 5=.ptr 1 0 0
 e6:get e 6=.ptr 2 0 0
 e7:get e 7=.i 0
 e8:get e 8=.ptr 4 0 0
 e13:get e 13=.ptr 8 0 0
 e14:get e 14=.ptr 9 0 0
 e15:get e 15=.clo 71 [.ptr 9 0 0,.ptr 8 0 0,.ptr 0 0 0]
 e16:get e 16=.i i
theorem E2L.kill {i:Nat} {e:Env} (h:E2L i e):E2L i (aQ [10] e):=by
 obtain ⟨e4,e5,e6,e7,e8,e13,e14,e15,e16⟩:=h
 exact ⟨by rw [aY,e4];rfl,by rw [aY,e5];rfl,by rw [aY,e6];rfl,by rw [aY,e7];rfl,by rw [aY,e8];rfl,by rw [aY,e13];rfl,by rw [aY,e14];rfl,by rw [aY,e15];rfl,by rw [aY,e16];rfl⟩
theorem pI {M:List Nat}:∀ {l:List (Bs × Nat)} {i:Nat},(esV l i).map (fun e=>(e.1,kill M e.2.1,e.2.2))=esV l i
 | [],_=>rfl
 | x::r,i=>by
  show _::(esV r (i+1)).map _=_
  rw [pI];rfl
theorem Wx {D1 D2:Bs} {p i:Nat} {o:List Op} (d1:D1.length=16) (d2:D2.length=16) (h2:new.length≤1000) (hi:i≤new.length) (ho:o.length≤1000000) (hE:E2L i e) (f:Nat) (e17:get e 17=.i f)
  (hN:∀ e b',E2L i e→get e 17=.i f→N ⟨e,hQ old new D1 D2 n p (flO o new p i),b'⟩):aw cE (pt 2 (Cw (rt 1 c20l0))) N X R ⟨e,hQ old new D1 D2 n p o,bb⟩:=by
 have hE':=hE
 obtain ⟨e4,e5,e6,e7,e8,e13,e14,e15,e16⟩:=hE
 conv=>arg 2;whnf
 simp -implicitDefEqProofs only [rX,↓rY,↓reduceIte,Nat.reduceEqDiff,Nat.reduceAdd,cxN,e15,e16]
 have hE2:=hE'.kill
 have k17:get (aQ [10] e) 17=.i f:=by rw [aY,e17];rfl
 refine dN [9,8,0,10] [3] [10] [.i i,.ptr 0 0 0,.ptr 1 0 0,.ptr 2 0 0] (.tup []) (.tup []) _ _ (hQ old new D1 D2 n p (flO o new p i)) _ (Xv D1 D2 new new.length o p i d1 d2 ho hi (by omega)) (by simp) (by simp) ?_ (by simp [aM,bK,aZ,dD,wkL,wk,wkR,wkB,pos]) ?_ rfl rfl trivial ?_
 ·simp [blk,bO,iY,ren,pos,bZ]
 ·simp [bO,iY,ren,back,bZ,bN,a7,pI,gK]
  exact ⟨rfl,rfl,rfl,rfl,rfl⟩
 simp -implicitDefEqProofs only [rX,↓reduceIte,Nat.reduceEqDiff,reduceCtorEq,aQ,kill,bE,St.kill]
 refine hN _ _ ?_ ?_
 ·exact ⟨hE2.e4,hE2.e5,hE2.e6,hE2.e7,hE2.e8,hE2.e13,hE2.e14,hE2.e15,hE2.e16⟩
 ·exact k17
set_option maxHeartbeats 1000000 in
theorem Wu {D1 D2:Bs} {p i:Nat} {o:List Op} (hn:1≤n) (hn2:n≤4096) (d1:D1.length=16) (d2:D2.length=16) (ho:o.length≤100000) (hE:E2L i e) (f:Nat) (hf:f≤1000) (e17:get e 17=.i f)
  (hN:∀ e b' o' tl,E2L i e→o'=oK o f n→N ⟨e,hQ old new D1 D2 n p o'++tl,b'⟩):aw cE (pt 3 (Cw (rt 1 c20l0))) N X R ⟨e,hQ old new D1 D2 n p o,bb⟩:=by
 have hk:=hE.kill
 obtain ⟨e4,e5,e6,e7,e8,e13,e14,e15,e16⟩:=hE
 have k13:=hk.e13
 have k17:get (aQ [10] e) 17=.i f:=by rw [aY,e17];rfl
 conv=>arg 2;whnf
 rcases yaV o with rfl|⟨o1,x,rfl⟩
 ·simp -implicitDefEqProofs only [rX,↓rY,aA,cells?,splice,↓reduceIte,Nat.reduceEqDiff,fL,Nat.reduceAdd,reduceCtorEq,aD,bV,cB,aQ,a7,kill,bE,St.kill,isD,isC,Nat.reduceLT,Nat.reduceLeDiff,↓ji,cxN,dU,nL,e13,e17,e5,k13,hk.e5,pI,gJ,Bp,eU,gK,Ln,d1,d2,show decide ((0:Int)<((0:Nat):Int))=false from rfl]
  refine fun _=>⟨by simp only [lo,Fx.hi];omega,by decide,?_⟩
  refine hN _ _ [((f:Int),(f:Int)+n,[])] [_,_] ?_ rfl
  exact ⟨hk.e4,hk.e5,hk.e6,hk.e7,hk.e8,hk.e13,hk.e14,hk.e15,hk.e16⟩
 ·rw [yaW] at *
  have hl1:((o1++[x]).length:Nat)=o1.length+1:=by simp
  have hd0:decide ((0:Int)<((o1.length+1:Nat):Int))=true:=decide_eq_true (by omega)
  have hidx:(((o1.length+1:Nat):Int)-1).toNat=o1.length:=by omega
  have hlast:∀ hh,(o1++[x])[(((o1.length+1:Nat):Int)-1).toNat]'hh=x:=by
   intro hh;simp only [hidx];simp
  have hle:o1.length+1≤100000:=by rw [←hl1];exact ho
  simp -implicitDefEqProofs only [rX,↓rY,aA,cells?,splice,↓reduceIte,Nat.reduceEqDiff,fL,Nat.reduceAdd,reduceCtorEq,aD,bV,cB,aQ,a7,kill,bE,St.kill,isD,isC,Nat.reduceLT,Nat.reduceLeDiff,↓ji,yal,cxN,dU,nL,e13,e17,e5,k13,hk.e5,pI,gJ,Bp,eU,gK,Ln,d1,d2,hl1,hd0,kb,hlast]
  have htk:yai (o1.length+1) ((o1++[x]).map enO)=(o1++[x]).map enO:=yad (by simp)
  have hpu:∀ e1 b1 tl,E2L i e1→(o1++[x])++[((f:Int),(f:Int)+n,[])]=oK (o1++[x]) f n→N ⟨e1,Mu old new n++[.var (pe D1 D2 new.length (.sl 10 0 (o1.length+1+1))),.var [.i p],.arr 3 ((o1++[x]).map enO++[[V.i f,V.i ((f:Int)+n),sv []]])]++tl,b1⟩:=by
   intro e1 b1 tl g1 g3
   have hs:=hN e1 b1 ((o1++[x])++[((f:Int),(f:Int)+n,[])]) tl g1 g3
   unfold hQ at hs
   rwa [yaa,hl1,show rwO ((o1++[x])++[((f:Int),(f:Int)+n,[])])=.arr 3 ((o1++[x]).map enO++[enO ((f:Int),(f:Int)+n,[])]) by unfold rwO;rw [yaJ];rfl] at hs
  refine fun _=>⟨by simp only [lo,Fx.hi];omega,⟨by omega,by omega⟩,by omega,?_⟩
  cases h9:(x.2.2==[]) with
  | false =>
   have h9':x.2.2≠[]:=beq_eq_false_iff_ne.1 h9
   rw [kc,htk]
   refine ⟨by simp only [lo,Fx.hi];omega,by omega,?_⟩
   refine hpu _ _ [_,_] ?_ ?_
   ·exact ⟨hk.e4,hk.e5,hk.e6,hk.e7,hk.e8,hk.e13,hk.e14,hk.e15,hk.e16⟩
   ·rw [mR,if_neg (fun h=>h9' h.1)]
  | true =>
   have h9':x.2.2=[]:=beq_iff_eq.1 h9
   rw [kb]
   refine ⟨by simp only [lo,Fx.hi];omega,⟨by omega,by omega⟩,by omega,?_⟩
   cases h8:(x.2.1==(f:Int)) with
   | false =>
    have h8':x.2.1≠f:=beq_eq_false_iff_ne.1 h8
    rw [kc,htk]
    refine ⟨by simp only [lo,Fx.hi];omega,by omega,?_⟩
    refine hpu _ _ [_,_] ?_ ?_
    ·exact ⟨hk.e4,hk.e5,hk.e6,hk.e7,hk.e8,hk.e13,hk.e14,hk.e15,hk.e16⟩
    ·rw [mR,if_neg (fun h=>h8' h.2)]
   | true =>
    have h8':x.2.1=f:=beq_iff_eq.1 h8
    rw [kb]
    refine ⟨by simp only [lo,Fx.hi];omega,⟨by omega,by omega⟩,by omega,by simp only [lo,Fx.hi];omega,⟨by omega,by omega⟩,by omega,?_⟩
    rw [hidx,set_last (y:=(x.1,x.2.1+n,x.2.2)),h8']
    have hs:=fun e1 b1 tl=>hN e1 b1 (o1++[(x.1,(f:Int)+n,x.2.2)]) tl
    unfold hQ at hs
    rw [yaa,yap] at hs
    refine hs _ _ [] ?_ ?_
    ·exact ⟨e4,e5,e6,e7,e8,e13,e14,e15,e16⟩
    ·rw [mR,if_pos ⟨h9',h8'⟩]
end
end Go.Fx.H
namespace Go.Fx.H
open Go Go.Fx Go.Proofs Go.Fx.R
set_option maxRecDepth 20000
def noB (o:List Op):Prop:=∀ x,o.getLast?=some x→x.2.2=[]
theorem Qf:noB []:=fun x h=>by cases h
theorem Lw {o:List Op} {f b:Nat}:noB (oK o f b):=by
 rcases yaV o with rfl|⟨o1,x,rfl⟩
 ·intro y hy;simp [oK] at hy;rw [←hy]
 ·rw [yaW,mR]
  intro y hy
  split at hy
  ·rename_i h
   simp at hy;rw [←hy];exact h.1
  ·rw [ybg] at hy
   simp at hy;rw [←hy]
theorem Co {o:List Op} {new:Bs} {p:Nat}:flO o new p p=o:=if_neg (Nat.lt_irrefl p)
theorem Nc {o:List Op} {new:Bs} {p i:Nat} (h:noB o) (hp:p≤i) (hi:i<new.length):flO o new p (i+1)=Dg (flO o new p i) (pc new 1 i):=by
 have e0:∀ k,p≤k→k<new.length→(new.take (k+1)).drop p=(new.take k).drop p++pc new 1 k:=by
  intro k h1 h2
  rw [←yae k new]
  have e1:(yai k new++yao k new).take (k+1)=yai k new++(yao k new).take 1:=by
   rw [List.take_append,yad (by rw [yac];omega),yac]
   congr 2;omega
  have e2:(yai k new++yao k new).take k=yai k new:=by
   rw [List.take_append,yac,yad (by rw [yac];omega)]
   rw [show k-min k new.length=0 by omega];simp
  rw [e1,e2,yaB (by rw [yac];omega)]
  simp [pc]
 rcases Nat.eq_or_lt_of_le hp with rfl|hp
 ·rw [Co]
  have:flO o new p (p+1)=o++[(0,0,pc new 1 p)]:=by
   unfold flO
   rw [if_pos (by omega),e0 p (yab _) hi,yak (by rw [yac];omega)];rfl
  rw [this]
  rcases yaV o with rfl|⟨o1,x,rfl⟩
  ·rfl
  ·rw [yaW] at *
   rw [Df,if_neg]
   have:=h x (by simp)
   simp [this]
 ·have e1:flO o new p (i+1)=o++[(0,0,(new.take i).drop p++pc new 1 i)]:=by
   unfold flO
   rw [if_pos (by omega),e0 i (by omega) hi]
  have e2:flO o new p i=o++[(0,0,(new.take i).drop p)]:=if_pos hp
  rw [e1,e2,Df,if_pos]
  intro h9
  have:=congrArg ybd h9
  simp at this
  omega
theorem Qp {o:List Op} {new:Bs} {p i:Nat}:(flO o new p i).length≤o.length+1:=by
 unfold flO;split<;>simp
theorem Oh {o:List Op} {f b:Nat}:(oK o f b).length≤o.length+1:=by
 rcases yaV o with rfl|⟨o1,x,rfl⟩
 ·simp [oK]
 ·rw [yaW,mR];split<;>simp
theorem Wc {D1 D2 old new:Bs} {n p i:Nat} {o:List Op} {e:Env} {b:Nat} {K:V→St→Prop} (d1:D1.length=16) (d2:D2.length=16) (h2:new.length≤1000) (hi:i≤new.length) (ho:o.length≤1000000) (h3:K (.tup []) ⟨aQ [10] e,hQ old new D1 D2 n p (flO o new p i),b⟩) :
  eG cE 71 [.i i,.ptr 9 0 0,.ptr 8 0 0,.ptr 0 0 0] ⟨e,hQ old new D1 D2 n p o,b⟩ K:=by
 refine dN [9,8,0,10] [3] [10] [.i i,.ptr 0 0 0,.ptr 1 0 0,.ptr 2 0 0] (.tup []) (.tup []) _ _ (hQ old new D1 D2 n p (flO o new p i)) _ (Xv D1 D2 new new.length o p i d1 d2 ho hi (by omega)) (by simp [cxN]) (by simp [cxN]) ?_ (by simp [aM,bK,aZ,dD,wkL,wk,wkR,wkB,pos]) ?_ rfl rfl trivial h3
 ·simp [blk,bO,iY,ren,pos,bZ]
 ·simp [bO,iY,ren,back,bZ,bN,a7,pI,gK]
  exact ⟨rfl,rfl,rfl,rfl,rfl⟩
theorem Xn:(pe z16 z16 0 (V.v (Value.slice none 0 0))).all isC=true:=yP rfl
theorem Yd (old new:Bs) (b:Int) (h1:old.length≤1000) (h2:new.length≤1000):Ok 20 [sv old,sv new,.i b] (Is (.tup [.agg (dfP old new b (rO (dfO old new b))),.i (dfE old new b)])):=by
 refine jX (R:=fun q hs=>wk (.tup [.agg (dfP old new b (rO (dfO old new b))),.i (dfE old new b)]) (gvV (fun _=>true) hs q)) ?_ fun _ _ h=>h
 refine bY lw20 (by simp) ?_
 rw [c20_parts]
 simp -implicitDefEqProofs only [qJ]
 conv=>arg 2;whnf
 simp -implicitDefEqProofs only [rX,↓rY,aA,cells?,↓reduceIte,Nat.reduceEqDiff,Nat.reduceAdd,reduceCtorEq,aD,cxN,aL,tJ]
 have hret:∀ (e:Env) (k:Int) (b':Nat) (tl:List Blk),get e 6=.ptr 2 0 0→get e 7=.v (.int .i64 k)→dfE old new b=k→k≠0→eK [] 0 [fE.cell 6 (some 34),fE.tmp 7] (fun q hs=>wk (.tup [.agg (dfP old new b (rO (dfO old new b))),.i (dfE old new b)]) (gvV (fun _=>true) hs q)) ⟨e,[.var [sv new],.var [.i b],.var zP]++tl,b'⟩:=by
  intro e k b' tl g6 g7 hk h0
  have e1:dfO old new b=[]:=if_pos (by rw [hk];exact h0)
  have e2:∀ o,dfP old new b o=pe z16 z16 0 o:=fun o=>if_pos (by rw [hk];exact h0)
  rw [eH,e1,e2,hk]
  simp -implicitDefEqProofs only [rX,↓rY,aV,a6,aC,wfV,wfL,g6,g7,gJ,gC,cR]
  refine ⟨([]:List Blk),⟨trivial,yag _,tH,trivial⟩,?_⟩
  show wkL [V.agg (pe z16 z16 0 (rO [])),V.i k] (gvL (fun _=>true) [] [V.agg zP,V.i k])
  refine ⟨?_,rfl,trivial⟩
  show wkL _ (gvL _ _ zP)
  rw [Rx]
  exact Lm (by simp [wk,wkR,gvV])
 conv=>arg 2;whnf
 simp -implicitDefEqProofs only [rX,↓rY,aA,cells?,splice,↓reduceIte,Nat.reduceEqDiff,Nat.reduceAdd,reduceCtorEq,bV,bR,tJ,gJ,eU,cR]
 have hb1:dfE old new b=1∨(1≤b∧b≤4096∧dfE old new b=0):=by
  unfold dfE
  by_cases h:b<1∨4096<b
  ·left;rw [if_pos h]
  ·right;rw [if_neg h,if_neg (by omega)];omega
 have hd3:decide ((65536:Int)<max (old.length:Int) (new.length:Int))=false:=decide_eq_false (by omega)
 cases hd1:decide (b<1) with
 | true =>
  rw [kb]
  have:=of_decide_eq_true hd1
  exact ⟨Xn,hret _ 1 _ [] rfl rfl (by unfold dfE;rw [if_pos (.inl this)]) (by decide)⟩
 | false =>
 rw [kc]
 cases hd2:decide (4096<b) with
 | true =>
  rw [kb]
  have:=of_decide_eq_true hd2
  exact ⟨Xn,hret _ 1 _ [] rfl rfl (by unfold dfE;rw [if_pos (.inr this)]) (by decide)⟩
 | false =>
 rw [kc,hd3,kc]
 have h5:=of_decide_eq_false hd1
 have h6:=of_decide_eq_false hd2
 have he0:dfE old new b=0:=by
  unfold dfE
  rw [if_neg (by omega),if_neg (by omega)]
 obtain ⟨n,rfl⟩:∃ n:Nat,b=n:=⟨b.toNat,by omega⟩
 have hb:1≤n∧n≤4096:=by omega
 have he1:∀ o,dfP old new (n:Int) o=pe (dig old) (dig new) new.length o:=fun o=>by unfold dfP;rw [if_neg (by rw [he0];decide)]
 have ho:dfO old new (n:Int)=gW old new n 0 []:=by unfold dfO;rw [if_neg (by rw [he0];decide),yan]
 refine Ww hb.1 hb.2 h1 h2 ⟨rfl,rfl,rfl,rfl,rfl⟩ ?_
 rintro e b' hE e8
 simp -implicitDefEqProofs only [qJ]
 refine Wv h1 h2 hE e8 ?_
 rintro e b' D1 D2 hD1 hD2 ⟨e0,e4,e5,e6,e7⟩ e8 e13
 have d1:D1.length=16:=by rw [hD1];exact bG
 have d2:D2.length=16:=by rw [hD2];exact bG
 rw [←hD1,←hD2] at he1
 conv=>arg 2;whnf
 simp -implicitDefEqProofs only [rX]
 conv=>arg 2;whnf
 simp -implicitDefEqProofs only [rX,↓rY,aA,cells?,splice,↓reduceIte,Nat.reduceAdd,aD,isC]
 conv=>arg 2;whnf
 simp -implicitDefEqProofs only [rX,↓reduceIte,Nat.reduceEqDiff,Nat.reduceAdd,e4,e13]
 conv=>arg 2;whnf
 simp -implicitDefEqProofs only [rX,aA,Nat.reduceAdd]
 refine eY (.virt 1 3 (by decide) (.nilB 8 (pe D1 D2 new.length (.v (.slice none 0 0))) (pe D1 D2 new.length (.sl 10 0 0)) rfl ⟨?_,?_⟩ (.refl _))) (fun g:Nat × Nat × List Op=>⟨[(16,.i g.1),(4,.ptr 0 0 0),(5,.ptr 1 0 0),(6,.ptr 2 0 0),(7,.i 0),(8,.ptr 4 0 0),(13,.ptr 8 0 0),(14,.ptr 9 0 0),(15,.clo 71 [.ptr 9 0 0,.ptr 8 0 0,.ptr 0 0 0])],hQ old new D1 D2 n g.2.1 g.2.2,10⟩) (fun g=>g.2.1≤g.1∧g.1≤new.length∧g.2.2.length≤g.1+g.1∧noB g.2.2∧gW old new n g.1 (flO g.2.2 new g.2.1 g.1)=gW old new n 0 []) (fun g=>new.length-g.1) (0,0,[]) ⟨yab _,yag _,yag _,Qf,rfl⟩ ?_ ?_
 ·rw [gJ d1 d2,gJ d1 d2]
 ·intro i x y hx hy
  exact Uk d1 d2 hx hy
 ·simp -implicitDefEqProofs only [rX,↓reduceIte,Nat.reduceEqDiff,leE,leH,leB,leV,dC,aC,aB,wfE,wfB,wfV,wfL,ybc,e4,e5,e6,e7,e8,e13]
  exact ⟨rfl,⟨cP _,cP _,rfl,rfl⟩,tH,xS,uG (by simp [wfV,aB])⟩
 rintro ⟨i,p,o⟩ ⟨hpi,hi,hol,hnb,hd⟩
 simp only at hpi hi hol hnb hd
 rw [c20l0_parts]
 simp -implicitDefEqProofs only [qJ]
 conv=>arg 2;whnf
 simp -implicitDefEqProofs only [rX,↓rY,↓reduceIte,Nat.reduceEqDiff,Nat.reduceAdd,bR]
 cases hdi:decide ((i:Int)<(new.length:Int)) with
 | false =>
  have hdi':=of_decide_eq_false hdi
  have hie:i=new.length:=by omega
  rw [Cr (by omega)] at hd
  simp only [kc]
  conv=>arg 2;whnf
  simp -implicitDefEqProofs only [rX,↓rY,↓reduceIte,Nat.reduceEqDiff,Nat.reduceAdd,bR]
  refine Wc d1 d2 h2 (by omega) (by omega) ?_
  simp -implicitDefEqProofs only [rX,↓reduceIte,Nat.reduceEqDiff,reduceCtorEq,aQ,kill,bE,St.kill]
  conv=>arg 2;whnf
  simp -implicitDefEqProofs only [rX,↓rY,aA,cells?,splice,↓reduceIte,Nat.reduceEqDiff,Nat.reduceAdd,aV,a6,aC,wfV,wfL,gJ,gC,eU,cR,d1,d2,eH]
  rw [he1,ho,he0,←hd,←hie]
  refine ⟨yP rfl,[.dead,.dead,.dead,.dead,.dead,.dead,.dead,.dead,.dead,.dead,rwO (flO o new p i)],⟨⟨trivial,trivial,trivial,trivial,trivial,trivial,trivial,trivial,trivial,trivial,bC _,trivial⟩,yag _,uG (by simp [wfV,aB]),trivial⟩,?_⟩
  show wkL [V.agg _,V.i 0] (gvL _ _ [V.agg _,V.i 0])
  refine ⟨?_,rfl,trivial⟩
  show wkL _ (gvL _ _ _)
  rw [Rx]
  refine Lm ?_
  simp [gvV,blk,wk,wkR,yad]
 | true =>
 have hdi':=of_decide_eq_true hdi
 have hin:i<new.length:=by omega
 simp only [kb]
 conv=>arg 2;whnf
 simp -implicitDefEqProofs only [rX,↓rY,qg,qj,qs,rdK,zt,zC,↓reduceIte,Nat.reduceEqDiff,Nat.reduceAdd,cQ,↓jl,↓jo,yan,bR]
 have hmn:(sb new).extract i (min (new.length:Int) ((i:Int)+(n:Int))).toNat=sb (pc new n i):=by
  rw [iK]
  congr 1
  unfold pc
  rw [show (min (new.length:Int) ((i:Int)+(n:Int))).toNat=min new.length (i+n) by omega,List.drop_take]
  rcases Nat.le_total (i+n) new.length with h|h
  ·rw [Nat.min_eq_right h];congr 1;omega
  ·rw [Nat.min_eq_left h,yad (by simp),yad (by simp;omega)]
 rw [hmn,uM]
 have hlk:=Hf (old:=old) (q:=pc new n i) (b:=n) (j:=nb old.length n)
 have hst:=m8 (old:=old) (o:=flO o new p i) hb.1 hin
 rw [hd] at hst
 refine ⟨by simp only [lo,Fx.hi];omega,⟨⟨by omega,by omega⟩,by omega,ybf _⟩,rfl,?_⟩
 cases hl:lkp (pc new n i) (gM old n (nb old.length n)) 0 with
 | none =>
  have hf:fnd old n (pc new n i)=none:=by
   unfold fnd
   rw [hl] at hlk
   cases h9:oC old n (pc new n i) (nb old.length n) with
   | none=>rfl
   | some f=>rw [h9] at hlk;simp at hlk
  rw [hf] at hst
  simp -implicitDefEqProofs only [rX,↓rY,aA,↓jq]
  conv=>arg 2;whnf
  simp -implicitDefEqProofs only [rX,↓rY,aA,↓reduceIte,Nat.reduceEqDiff,Nat.reduceAdd,leE,leH,leB,leV,dC,aC,aB,wfE,wfB,wfV,wfL]
  exact ⟨by simp only [lo,Fx.hi];omega,(i+1,p,o),⟨⟨by simp only;omega,by simp only;omega,by simp only;omega,hnb,by show gW old new n (i+1) (flO o new p (i+1))=_;rw [Nc hnb hpi hin];exact hst.symm⟩,by simp only;omega⟩,by simp only;omega,⟨cP _,cP _,rfl,rfl⟩,tH,xS,uG (by simp [wfV,aB])⟩
 | some r =>
  obtain ⟨f,hf,hr⟩:∃ f:Nat,fnd old n (pc new n i)=some f∧r.2=.i f:=by
   unfold fnd
   rw [hl] at hlk
   cases h9:oC old n (pc new n i) (nb old.length n) with
   | none=>rw [h9] at hlk;simp at hlk
   | some f=>rw [h9] at hlk;exact ⟨f,rfl,by simpa using hlk⟩
  rw [hf] at hst
  have hfl:=Vs hf
  have hpl:(pc new n i).length=n:=by
   obtain ⟨j,_,_,_,h4⟩:=m7 hf
   exact h4
  rw [Um] at hpl
  obtain ⟨r1,r2⟩:=r
  simp only at hr
  subst hr
  simp -implicitDefEqProofs only [rX,↓rY,↓jp]
  conv=>arg 2;whnf
  simp -implicitDefEqProofs only [rX,↓rY,↓reduceIte,Nat.reduceAdd]
  refine Wx d1 d2 h2 hi (by omega) ⟨rfl,rfl,rfl,rfl,rfl,rfl,rfl,rfl,rfl⟩ f rfl ?_
  rintro e b' hE e17
  simp -implicitDefEqProofs only [qJ]
  have hfo:=Qp (o:=o) (new:=new) (p:=p) (i:=i)
  refine Wu hb.1 hb.2 d1 d2 (by omega) hE f (by omega) e17 ?_
  rintro e b' o' tl ⟨e4,e5,e6,e7,e8,e13,e14,e15,e16⟩ ho'
  conv=>arg 2;whnf
  simp -implicitDefEqProofs only [rX]
  conv=>arg 2;whnf
  simp -implicitDefEqProofs only [rX,↓rY,↓reduceIte,Nat.reduceEqDiff,e5,e16]
  refine ⟨by simp only [lo,Fx.hi];omega,?_⟩
  conv=>arg 2;whnf
  simp -implicitDefEqProofs only [rX,↓rY,cells?,splice,↓reduceIte,Nat.reduceEqDiff,leE,leH,leB,leV,dC,aC,aB,wfE,wfB,wfV,wfL,isC,e4,e5,e6,e7,e8,e13,e14,e15]
  have hao:=Oh (o:=flO o new p i) (f:=f) (b:=n)
  subst ho'
  refine ⟨(i+n,i+n,oK (flO o new p i) f n),⟨⟨yab _,by simp only;omega,by simp only;omega,Lw,by show gW old new n (i+n) (flO _ new (i+n) (i+n))=_;rw [Co];exact hst.symm⟩,by simp only;omega⟩,?_⟩
  exact ⟨by simp only;omega,⟨cP _,cP _,by simp only;omega,rfl⟩,tH,xS,uG (by simp [wfV,aB])⟩
end Go.Fx.H
namespace Go.Fx.H
open Go Go.Fx Go.Proofs Go.Fx.R
set_option maxRecDepth 20000
def vI (old:Bs) (x:Op):Prop:=(x.2.2=[]∧(x.1<0∨x.1≥x.2.1∨x.2.1>old.length))∨(x.2.2≠[]∧(x.1≠0∨x.2.1≠0))
instance {old:Bs} {x:Op}:Decidable (vI old x):=inferInstanceAs (Decidable (_∨_))
def eL (old:Bs) (x:Op):Bs:=if x.2.2=[] then (old.take x.2.1.toNat).drop x.1.toNat else x.2.2
def apN (old:Bs):List Op→Bs→Option Bs
 | [],o=>some o
 | x::r,o=>if vI old x then none else if 65536<(o++eL old x).length then none else apN old r (o++eL old x)
def apE (old a b:Bs) (s:Int) (l:List Op):Int :=
 if dig old≠a then 8 else match apN old l [] with
  | none=>3
  | some t=>if (t.length:Int)≠s then 3 else if dig t≠b then 8 else 0
def apR (old a b:Bs) (s:Int) (l:List Op):Bs:=if apE old a b s l≠0 then [] else (apN old l []).getD []
theorem Og {old:Bs} {l:List Op} {k:Nat} {o:Bs} (h:k<l.length):apN old (l.drop k) o=if vI old l[k] then none else if 65536<(o++eL old l[k]).length then none else apN old (l.drop (k+1)) (o++eL old l[k]):=by
 rw [yat h];rfl
abbrev h23 (a b:Bs) (s:Int) (l:List Op) (k:Int):List Blk:=[.var (pe a b s (rO l)),.var [.v (.string (sb [])),.i k]]
section
end
end Go.Fx.H
namespace Go.Fx.H
open Go Go.Fx Go.Proofs Go.Fx.R
set_option maxRecDepth 20000
theorem adB (a b:List Sp):Ok 16 [aN a,aN b] (Is (.b (a==b))):=by
 refine bY lw16 (by simp) ?_
 unfold c16
 simp -implicitDefEqProofs only [rX,aA,↓reduceIte,Nat.reduceEqDiff,reduceCtorEq,cxN,aL]
 refine aE (acV a b) ⟨⟨trivial,trivial,trivial⟩,⟨rfl,rfl⟩,⟨rfl,rfl⟩,trivial⟩ rfl trivial ?_
 simp -implicitDefEqProofs only [rX,↓reduceIte,aV,a6,wfV]
abbrev xA:Bs:=[97,98,99,100,101,102,103,104,105,106]
abbrev xB:Bs:=[97,98,99,100,101,88,103,104,105,106]
abbrev yA:Bs:=[97,98,99,100,101,102,103,104]
abbrev yB:Bs:=[97,98,99,100,88,101,102,103,104]
abbrev yC:Bs:=[97,98,99,100,101,102,103,88]
theorem h1:lf [101,88,103,104]≠lf [101,102,103,104]:=by decide +kernel
theorem h2:dig yC≠dig yA:=by decide +kernel
theorem h3:mkE xA 4=0:=by decide
theorem h4:Fj [(0,2),(5,6),(8,9)] 2=[(0,2),(5,9)]:=by decide
theorem h5:Cz [(0,2),(5,6),(8,9)] 2=0:=by decide
abbrev l0:Bs:=lf [97,98,99,100]
abbrev l1:Bs:=lf [101,102,103,104]
abbrev l2:Bs:=lf [105,106]
abbrev lX:Bs:=lf [105,120]
theorem xL:lvs xA 4=[l0,l1,l2]:=by
 have:Nz xA 4=[[97,98,99,100],[101,102,103,104],[105,106]]:=by decide
 unfold lvs;rw [this];rfl
theorem Fp:root [l0,l1]=nd l0 l1:=by
 rw [root,dif_pos (by decide)]
 have e:spl [l0,l1].length=1:=by decide
 rw [e]
 show nd (root [l0]) (root [l1])=_
 rw [root,dif_neg (by decide),root,dif_neg (by decide)];rfl
theorem Pa (x:Bs):root [x]=x:=by rw [root,dif_neg (by simp)];rfl
theorem Jp:root [l0,l1,l2]=nd (nd l0 l1) l2:=by
 rw [root,dif_pos (by decide)]
 have e:spl [l0,l1,l2].length=2:=by decide
 rw [e]
 show nd (root [l0,l1]) (root [l2])=_
 rw [Fp,Pa]
theorem Jr:eM [l0,l1,l2] 2=[nd l0 l1]:=by
 rw [eM,dif_pos (by decide)]
 have e:spl [l0,l1,l2].length=2:=by decide
 rw [e,if_neg (by decide)]
 show eM [l2] 0++[root [l0,l1]]=_
 rw [eM,dif_neg (by decide),Fp];rfl
theorem abU (x p:Bs):cl x 2 3 [p]=nd p x:=by
 have e:spl 3=2:=by decide
 rw [Hw (by decide) (by rw [e];decide),e,Ag (by decide)]
 rfl
theorem h6:nd (nd l0 l1) lX≠nd (nd l0 l1) l2:=by decide +kernel
abbrev xM:Man:=⟨10,4,root [l0,l1,l2]⟩
theorem x_M:mkM xA 4=xM:=by
 unfold mkM
 rw [if_pos h3]
 show (⟨_,_,root (lvs xA 4)⟩:Man)=_
 rw [xL];rfl
theorem x_P:prE xA 4 2=0∧prL xA 4 2=[nd l0 l1]:=by
 have e:¬mkE xA 4≠0:=by rw [h3];decide
 unfold prE prL
 rw [if_neg e,if_neg e]
 show inE (lvs xA 4) 2=0∧inL (lvs xA 4) 2=_
 rw [xL]
 exact ⟨by decide,Jr⟩
theorem x_C:chE xM 2 [105,106] [nd l0 l1]=0:=by
 have e1:xM.n=3:=by decide
 have e2:xM.span 2=(8,10):=by decide
 have e3:ckI l2 2 3 [nd l0 l1] xM.rt=true:=by
  have:=Cg (l:=[l0,l1,l2]) (i:=2) (by decide)
  rw [Jr] at this
  exact this
 unfold chE
 rw [e1,e2,if_neg (by decide),if_neg]
 rw [e3]
 decide
theorem abV:chE xM 2 [105,120] [nd l0 l1]=8:=by
 have e1:xM.n=3:=by decide
 have e2:xM.span 2=(8,10):=by decide
 have e3:ckI lX 2 3 [nd l0 l1] xM.rt=false:=by
  show mL lX 2 3 [nd l0 l1] (root [l0,l1,l2])=false
  unfold mL
  rw [abU,Jp]
  have:=beq_eq_false_iff_ne.2 h6
  rw [this,Bool.and_false]
 unfold chE
 rw [e1,e2,if_neg (by decide),if_pos]
 exact .inr e3
abbrev yO:List Op:=[(0,4,[]),(0,0,[88]),(4,8,[])]
theorem y_E:dfE yA yB 4=0:=by decide
theorem y_O:dfO yA yB 4=yO:=by
 unfold dfO
 rw [if_neg (by rw [y_E];decide)]
 show gW yA yB 4 0 []=_
 have f0:fnd yA 4 (pc yB 4 0)=some 0:=by decide
 have f4:fnd yA 4 (pc yB 4 4)=none:=by decide
 have f5:fnd yA 4 (pc yB 4 5)=some 4:=by decide
 rw [m8 (by decide) (by decide),f0]
 show gW yA yB 4 4 _=_
 rw [m8 (by decide) (by decide),f4]
 show gW yA yB 4 5 _=_
 rw [m8 (by decide) (by decide),f5]
 show gW yA yB 4 9 _=_
 rw [Cr (by decide)]
 decide
theorem y_P (o:V):dfP yA yB 4 o=pe (dig yA) (dig yB) 9 o:=by
 unfold dfP
 rw [if_neg (by rw [y_E];decide)];rfl
theorem y_N:apN yA yO []=some yB:=by decide
theorem y_A:apE yA (dig yA) (dig yB) 9 yO=0:=by
 unfold apE
 rw [if_neg (by simp),y_N]
 simp
theorem y_S:apR yA (dig yA) (dig yB) 9 yO=yB:=by
 unfold apR
 rw [y_A,if_neg (by decide),y_N];rfl
theorem y_B:apE yC (dig yA) (dig yB) 9 yO=8:=by
 unfold apE
 rw [if_pos h2]
theorem y_W:wgt yO=1:=by decide
theorem Wi:dmE xM [l0,l1,l2] xB [(0,10)]=0:=by
 refine dm0 ?_ rfl
 have e1:xM.n=3:=by decide
 have e2:vd [(0,10)]=true:=by decide
 have e3:iO [(0,10)]=10:=by decide
 rw [e1,e2,e3]
 decide
theorem abT:dmL xM [l0,l1,l2] xB [(0,10)]=[(4,8)]:=by
 unfold dmL
 rw [if_neg (by rw [Wi];decide)]
 show ofS (dmO [l0,l1,l2] xB 4 [(0,10)] 3)=_
 have g0:dmg [l0,l1,l2] xB 4 [(0,10)] 0=false:=by
  show ((lf [97,98,99,100] != l0)&&_)=false
  rw [bne_self_eq_false];rfl
 have g2:dmg [l0,l1,l2] xB 4 [(0,10)] 2=false:=by
  show ((lf [105,106] != l2)&&_)=false
  rw [bne_self_eq_false];rfl
 have g1:dmg [l0,l1,l2] xB 4 [(0,10)] 1=true:=by
  show ((lf [101,88,103,104] != l1)&&cov [(0,10)] (spn xB 4 1))=true
  have:(lf [101,88,103,104] != l1)=true:=bne_iff_ne.2 h1
  rw [this]
  decide
 have e0:dmO [l0,l1,l2] xB 4 [(0,10)] 3=[(4,8)]:=by
  rw [j2,j2,j2,g0,g1,g2]
  decide
 rw [e0]
 decide
end Go.Fx.H
namespace Go.Fx.H
open Go Go.Fx Go.Proofs Go.Fx.R
set_option maxRecDepth 20000
abbrev S13:Prop:=Ok 13 [] (Is (.b true))
end Go.Fx.H
namespace Go.Fx.H
open Go Go.Fx Go.Proofs Go.Fx.R
theorem Kg {l:List Sp} (h:∀ s∈l,s.1≤s.2):0≤tot l:=by
 induction l with
 | nil=>simp [tot]
 | cons s r ih =>
  rw [jM]
  have:=h s yaD
  have:=ih fun t ht=>h t (yaE _ ht)
  omega
theorem pick {C G:List Sp} (h:C.Sublist G):∀ {m:Nat},G.Pairwise (fun s t=>s.2-s.1≤t.2-t.1)→(∀ s∈G,s.1≤s.2)→m≤C.length→tot (G.take m)≤tot C:=by
 induction h with
 | slnil=>intro m _ _ hm;simp [tot]
 | @cons C G g hs ih =>
  intro m hp hn hm
  obtain ⟨p1,p2⟩:=yaq.1 hp
  have hn2:∀ s∈G,s.1≤s.2:=fun s hs=>hn s (yaE _ hs)
  match m with
  | 0=>rw [List.take_zero];exact Kg fun s hm=>hn2 s (hs.subset hm)
  | m+1 =>
   have h1:=ih p2 hn2 hm
   have hl:=hs.length_le
   have hlt:m<G.length:=by omega
   rw [ybt,jM]
   rw [yav,yah hlt] at h1
   have h2:tot (G.take m++(some G[m]).toList)=tot (G.take m)+(G[m].2-G[m].1):=by rw [Po];simp [tot]
   rw [h2] at h1
   have:=p1 _ (yaj hlt)
   omega
 | @cons_cons C G g hs ih =>
  intro m hp hn hm
  obtain ⟨p1,p2⟩:=yaq.1 hp
  match m with
  | 0=>rw [List.take_zero];exact Kg fun s hm=>hn s ((hs.cons_cons g).subset hm)
  | m+1 =>
   have h1:=ih p2 (fun s hs=>hn s (yaE _ hs)) (show m≤C.length by simpa using hm)
   rw [ybt,jM,jM]
   omega
end Go.Fx.H
namespace Go.Fx.H
open Go Go.Fx Go.Proofs Go.Fx.R
set_option maxRecDepth 20000
end Go.Fx.H
namespace Go.Fx.H
open Go Go.Fx Go.Proofs Go.Fx.R
set_option maxRecDepth 20000
theorem Zw {f:FuncId} {xs:List V} (h:Ok f xs (Is (.b true))):Fn Tryz.prog f xs [] [] (fun r _=>r=.b true):=(o7 h fun r h' hr=>hr.1).2
abbrev tI:Fx.T:=.int .i64
theorem Tc {k:IntKind} {x:List V} (h:WfT (.int k) x):∃ n:Int,x=[.v (.int k n)]∧lo k≤n∧n≤hi k:=by
 simpa only [WfT] using h
theorem Zs {n:Int} (h:lo .i64≤n∧n≤hi .i64):-9223372036854775808≤n∧n≤9223372036854775807:=h
theorem Sy {x:V} (h:WfV tI x):∃ n:Int,x=.i n∧-9223372036854775808≤n∧n≤9223372036854775807:=by
 obtain ⟨n,h1,h2⟩:=Tc (show WfT tI [x] from h)
 exact ⟨n,by simpa using h1,Zs h2⟩
theorem Do {x:V} (h:WfV .str x):∃ l:Bs,x=sv l:=by
 obtain ⟨s,h1,_⟩:=(show WfT .str [x] from h)
 obtain ⟨l,rfl⟩:=Ws (b:=s)
 exact ⟨l,by simpa using h1⟩
end Go.Fx.H
namespace Go.Proofs
open Go.Shelf
def Tryz.bldRen:Go.Shelf.Ren:=⟨fun|166=>74|240=>121|276=>157|169=>76|170=>75|n=>n,fun|0=>0|3=>3|4=>4|9=>9|20=>20|5=>5|37=>122|70=>121|72=>124|75=>126|76=>126|80=>129|164=>231|127=>187|n=>n,fun|n=>n⟩
theorem Tryz.bld166:Go.Proofs.Lays.n166 Tryz.prog Tryz.bldRen:={
 mixed:=by kernel_rfl
 f166:=Tryz.func74.trans (congrArg some (by kernel_rfl))
 f240:=Tryz.func121.trans (congrArg some (by kernel_rfl))
 f276:=Tryz.func157.trans (congrArg some (by kernel_rfl))
 t0:=Tryz.underlying0
 a0:=Tryz.isAgg0
 z0:=Tryz.sizeOf0
 v0:=Tryz.zeroValue0
 t3:=Tryz.underlying3
 a3:=Tryz.isAgg3
 z3:=Tryz.sizeOf3
 v3:=Tryz.zeroValue3
 t4:=Tryz.underlying4
 a4:=Tryz.isAgg4
 z4:=Tryz.sizeOf4
 v4:=Tryz.zeroValue4
 t9:=Tryz.underlying9
 a9:=Tryz.isAgg9
 z9:=Tryz.sizeOf9
 v9:=Tryz.zeroValue9
 t20:=Tryz.underlying20
 a20:=Tryz.isAgg20
 z20:=Tryz.sizeOf20
 v20:=Tryz.zeroValue20
 t37:=Tryz.underlying122
 a37:=Tryz.isAgg122
 z37:=Tryz.sizeOf122
 v37:=Tryz.zeroValue122
 t70:=Tryz.underlying121
 a70:=Tryz.isAgg121
 z70:=Tryz.sizeOf121
 v70:=Tryz.zeroValue121
 t72:=Tryz.underlying124
 a72:=Tryz.isAgg124
 z72:=Tryz.sizeOf124
 v72:=Tryz.zeroValue124
 t75:=Tryz.underlying126
 a75:=Tryz.isAgg126
 z75:=Tryz.sizeOf126
 v75:=Tryz.zeroValue126
 t164:=Tryz.underlying231
 a164:=Tryz.isAgg231
 z164:=Tryz.sizeOf231
 v164:=Tryz.zeroValue231 }
theorem Tryz.bld169:Go.Proofs.Lays.n169 Tryz.prog Tryz.bldRen:={
 mixed:=by kernel_rfl
 f169:=Tryz.func76.trans (congrArg some (by kernel_rfl))
 t0:=Tryz.underlying0
 a0:=Tryz.isAgg0
 z0:=Tryz.sizeOf0
 v0:=Tryz.zeroValue0
 t3:=Tryz.underlying3
 a3:=Tryz.isAgg3
 z3:=Tryz.sizeOf3
 v3:=Tryz.zeroValue3
 t9:=Tryz.underlying9
 a9:=Tryz.isAgg9
 z9:=Tryz.sizeOf9
 v9:=Tryz.zeroValue9
 t37:=Tryz.underlying122
 a37:=Tryz.isAgg122
 z37:=Tryz.sizeOf122
 v37:=Tryz.zeroValue122
 t70:=Tryz.underlying121
 a70:=Tryz.isAgg121
 z70:=Tryz.sizeOf121
 v70:=Tryz.zeroValue121
 t72:=Tryz.underlying124
 a72:=Tryz.isAgg124
 z72:=Tryz.sizeOf124
 v72:=Tryz.zeroValue124
 t127:=Tryz.underlying187
 a127:=Tryz.isAgg187
 z127:=Tryz.sizeOf187
 v127:=Tryz.zeroValue187 }
theorem Tryz.bld170:Go.Proofs.Lays.n170 Tryz.prog Tryz.bldRen:={
 mixed:=by kernel_rfl
 f170:=Tryz.func75.trans (congrArg some (by kernel_rfl))
 t0:=Tryz.underlying0
 a0:=Tryz.isAgg0
 z0:=Tryz.sizeOf0
 v0:=Tryz.zeroValue0
 t3:=Tryz.underlying3
 a3:=Tryz.isAgg3
 z3:=Tryz.sizeOf3
 v3:=Tryz.zeroValue3
 t37:=Tryz.underlying122
 a37:=Tryz.isAgg122
 z37:=Tryz.sizeOf122
 v37:=Tryz.zeroValue122
 t70:=Tryz.underlying121
 a70:=Tryz.isAgg121
 z70:=Tryz.sizeOf121
 v70:=Tryz.zeroValue121
 t72:=Tryz.underlying124
 a72:=Tryz.isAgg124
 z72:=Tryz.sizeOf124
 v72:=Tryz.zeroValue124 }
theorem Tryz.bldX:Builder.Extra Tryz.prog Tryz.bldRen:={
 sizeBuilder:=by kernel_rfl
 liesBuilder:=by kernel_rfl
 t5:=Tryz.underlying5
 a5:=Tryz.isAgg5
 z5:=Tryz.sizeOf5
 v5:=Tryz.zeroValue5
 infoByte:=by kernel_rfl
 cellsByte:=by kernel_rfl
 sizeByte:=by kernel_rfl
 neB5:=by decide }
end Go.Proofs
namespace Go.Fx.H
open Go Go.Fx Go.Proofs Go.RowKit
theorem xN {w w':World} {ρ:Nat→Loc} {X:Nat→Prop} (hr:Rep ρ X w []) (h:Below w.heap.size w w'):Fr ρ w ρ w':=⟨h.os,h.tape,h.output,h.size,fun b hb ho=>⟨h.block b hb,ho⟩⟩
theorem t7 {w w':World} {ρ:Nat→Loc} {X:Nat→Prop} (hr:Rep ρ X w []) (h:Below w.heap.size w w'):Rep ρ X w' [] :=
 ⟨hr.inj,hr.out,fun k b hk=>by simp at hk,hr.disj,fun k hk=>Nat.lt_of_lt_of_le (hr.lt k hk) h.size,hr.xfr (xN hr h)⟩
theorem Ob {w w':World} {ρ ρ':Nat→Loc} {X:Nat→Prop} (hr:Rep ρ X w []) (h:Fr ρ w ρ' w'):Below w.heap.size w w':=by
 have hown:∀ b,¬Own ρ b:=by
  rintro b ⟨k,hk,_⟩
  rw [hr.out k (yag _)] at hk;cases hk
 exact ⟨h.os,h.tape,h.output,h.size,fun b hb=>(h.keep b hb (hown b)).1⟩
theorem yE {w:World} {ρ:Nat→Loc} {X:Nat→Prop}:∀ {t:Bs} {a:List Value},aX ρ X w (us t) a→a=t.map fun c=>Value.int .u8 c.toNat
 | [],[],_=>rfl
 | [],_::_,h=>by simp only [us,List.map_nil,aX] at h
 | _::_,[],h=>by simp only [us,ybi,aX] at h
 | c::r,v::a,h=>by
  simp only [us,ybi,aX] at h
  have h3:v=.int .u8 c.toNat:=h.1
  have h4:a=r.map fun c=>Value.int .u8 c.toNat:=yE (ρ:=ρ) (X:=X) (w:=w) (t:=r) (a:=a) (by unfold us;exact h.2)
  rw [h3,h4];rfl
theorem Sj {w w1:World} {ρ:Nat→Loc} {X:Nat→Prop} (hr:Rep ρ X w []) (hb:Below w.heap.size w w1) (t:Bs) (h:t.length≤100000000000) :
  Calls Tryz.prog 70 #[.string (sb t)] w1 fun e w2=>e=.returned (.agg ((dig t).map fun c=>Value.int .u8 c.toNat).toArray)∧Below w1.heap.size w1 w2:=by
 have hr1:=t7 hr hb
 refine Calls.mono ((Ur t h).2 ρ X w1 [.string (sb t)] hr1 ⟨rfl,trivial⟩) ?_
 rintro e w2 ⟨val,r,h',ρ',rfl,⟨⟨rfl,rfl⟩,_⟩,hf,hr2,hv,_⟩
 refine ⟨?_,Ob hr1 hf⟩
 obtain ⟨a,rfl,ha⟩:=hv
 have:=yE (t:=dig t) ha
 rw [←this]
end Go.Fx.H
namespace Go.Fx.H
open Go Go.Fx Go.Proofs Go.RowKit
set_option maxHeartbeats 4000000
set_option maxRecDepth 1000000
abbrev usV (t:Bs):List Value:=t.map fun c=>Value.int .u8 c.toNat
theorem Eb {w:World} {ρ:Nat→Loc} {X:Nat→Prop}:∀ {t:Bs},aX ρ X w (us t) (usV t)
 | []=>by simp only [us,List.map_nil,aX]
 | c::r=>by
  have h:=Eb (ρ:=ρ) (X:=X) (w:=w) (t:=r)
  unfold us at h
  simp only [us,ybi,aX]
  exact ⟨rfl,h⟩
theorem Nf {a b:Bs} (ha:a.length=16) (hb:b.length=16) (w:World):Sem.run Tryz.prog (Op.equalIn 10000 23 (.agg (usV a).toArray) (.agg (usV b).toArray)) w=.ok (a==b) w:=by
 have h1:aX (fun _=>default) (fun _=>False) w (us a) (usV a).toArray.toList:=Eb
 have h2:aX (fun _=>default) (fun _=>False) w (us b) (usV b).toArray.toList:=Eb
 have hK:=oF ha hb (K:=fun t=>t=(a==b))
 obtain ⟨t,ht,hrun⟩:=u0 (P:=Tryz.prog) h1 h2 (d:=4) (D:=10000) (by omega) (t:=23) (ks:=(yaX 0 16).map fun i=>(i,.int .u8)) (K:=fun t=>t=(a==b)) (by kernel_rfl) (by kernel_rfl) (hK.mpr rfl)
 rw [hrun w,ht]
def pcs (a b:Bs) (s:Int) (o:Value):Array Value:=((a.map fun c=>Value.int .u8 c.toNat)++((b.map fun c=>Value.int .u8 c.toNat)++[.int .i64 s,o])).toArray
def Bx (B:Nat) (A A':List Value) (s:Int) (o:Value) (w:World):Prop:=w.rangeAt B 0 A∧w.rangeAt B 16 A'∧w.cell? ⟨B,32,none⟩=some (.int .i64 s)∧w.cell? ⟨B,33,none⟩=some o∧B<w.heap.size
theorem Bx.of {w:World} {a b:Bs} {s:Int} {o:Value} (ha:a.length=16) (hb:b.length=16):Bx w.heap.size (usV a) (usV b) s o (w.alloc (.cells (pcs a b s o) 43)).drew:=by
 have hbk:(w.alloc (.cells (pcs a b s o) 43)).drew.heap[w.heap.size]?=some (.cells (pcs a b s o) 43 (0,0)):=by
  show (w.heap.push _)[w.heap.size]?=_
  exact Array.getElem?_push_size
 have e0:((pcs a b s o).extract 0 (0+16)).toList=usV a:=by unfold pcs;simp [ha]
 have e1:((pcs a b s o).extract 16 (16+16)).toList=usV b:=by unfold pcs;simp [ha,hb]
 have e2:(pcs a b s o)[32]?=some (.int .i64 s):=by
  unfold pcs
  rw [ybu,yaz (by simp [ha]),yaz (by simp [ha,hb])]
  simp [ha,hb]
 have e3:(pcs a b s o)[33]?=some o:=by
  unfold pcs
  rw [ybu,yaz (by simp [ha]),yaz (by simp [ha,hb])]
  simp [ha,hb]
 refine ⟨?_,?_,?_,?_,?_⟩
 ·rw [←e0];exact World.rangeAt_of_block hbk 0 16
 ·rw [←e1];exact World.rangeAt_of_block hbk 16 16
 ·simp only [World.cell?,hbk];exact e2
 ·simp only [World.cell?,hbk];exact e3
 ·show w.heap.size<(w.heap.push _).size
  rw [Array.size_push];omega
theorem Bx.below {B:Nat} {A A':List Value} {s:Int} {o:Value} {w w':World} {n:Nat} (h:Bx B A A' s o w) (hb:Below n w w') (hn:B<n):Bx B A A' s o w':=by
 obtain ⟨h1,h2,h3,h4,h5⟩:=h
 refine ⟨fun j v hj=>?_,fun j v hj=>?_,?_,?_,Nat.lt_of_lt_of_le h5 hb.size⟩
 ·rw [hb.cell (p:=⟨B,0+j,none⟩) hn];exact h1 j v hj
 ·rw [hb.cell (p:=⟨B,16+j,none⟩) hn];exact h2 j v hj
 ·rw [hb.cell (p:=⟨B,32,none⟩) hn];exact h3
 ·rw [hb.cell (p:=⟨B,33,none⟩) hn];exact h4
theorem Iy {B b:Nat} {bs:List Value} {w:World} (h:Lib.IsBuilder 124 5 B b bs w) (ob:Obj):Lib.IsBuilder 124 5 B b bs (w.alloc ob):=by
 have one:∀ p,Lib.BuilderAt 124 5 B b p bs w→Lib.BuilderAt 124 5 B b p bs (w.alloc ob):=by
  intro p hp
  have hlt:=hp.lt
  obtain ⟨hB,v,hb,hown,hne⟩:=hp
  exact ⟨hB,v,by rw [Below.heap_alloc w ob b hlt];exact hb,hown.alloc ob,hne⟩
 exact h.imp (one _) (one _)
theorem Zn {B:Nat} {A A':List Value} {s:Int} {o:Value} {w w' w1:World} (h:w'.rangeAt B 0 A∧Bx B A A' s o w'∧Below B w w') (hb:Below w'.heap.size w' w1):w1.rangeAt B 0 A∧Bx B A A' s o w1∧Below B w w1:=by
 have h2:=h.2.1.below hb h.2.1.2.2.2.2
 exact ⟨h2.1,h2,h.2.2.trans (hb.mono (yaL h.2.1.2.2.2.2))⟩
theorem Zm {B:Nat} {A A':List Value} {s:Int} {o:Value} {W w w' w1:World} (h:w'.rangeAt B 16 A'∧Bx B A A' s o w'∧Below W.heap.size W w'∧Below w.heap.size w w') (hb:Below w'.heap.size w' w1):w1.rangeAt B 16 A'∧Bx B A A' s o w1∧Below W.heap.size W w1∧Below w.heap.size w w1:=by
 have h2:=h.2.1.below hb h.2.1.2.2.2.2
 exact ⟨h2.2.1,h2,h.2.2.1.trans (hb.mono h.2.2.1.size),h.2.2.2.trans (hb.mono h.2.2.2.size)⟩
theorem Vf {B:Nat} {A A':List Value} {s:Int} {o:Value} {W w w':World} (h:w'.rangeAt B 16 A'∧Bx B A A' s o w'∧Below W.heap.size W w'∧Below w.heap.size w w'):Below w.heap.size w w':=h.2.2.2
theorem Rg {w:World} {ρ:Nat→Loc} {X:Nat→Prop} (hr:Rep ρ X w []) (old a b:Bs) (s:Int) (l:List Op) (blk off:Nat) (pp:Option Addr) (cap:Nat) (h1:old.length≤100000) (ha:a.length=16) (hb:b.length=16) (hl:l.length≤100000) (hx:∀ x∈l,x.2.2.length≤100000) (hpp:l≠[]→pp=some ⟨blk,off,none⟩) (hop:∀ k (h:k<l.length),w.cell? ⟨blk,off+k*3,none⟩=some (.int .i64 l[k].1)∧w.cell? ⟨blk,off+k*3+1,none⟩=some (.int .i64 l[k].2.1)∧w.cell? ⟨blk,off+k*3+2,none⟩=some (.string (sb l[k].2.2))∧blk<w.heap.size) :
  Calls Tryz.prog 22 #[.string (sb old),.agg (pcs a b s (.slice pp l.length cap))] w fun e w'=>e=.returned (.tuple #[.string (sb (apR old a b s l)),.int .i64 (apE old a b s l)])∧Below w.heap.size w w':=by
 go_enter Tryz.func22,Tryz.ntmps22
 go_wp2
 have u23:=Tryz.underlying23
 have hbx:=Bx.of (w:=w) (s:=s) (o:=.slice pp l.length cap) ha hb
 generalize pcs a b s (.slice pp l.length cap)=C at *
 have hbe:Below w.heap.size w (w.alloc (.cells C 43)).drew:=((Below.refl _ w).alloc (yab _) _).drew
 have hdl:(dig old).length=16:=bG
 have heq:=fun w1=>Nf hdl ha w1
 have heq2:=fun (t:Bs) w1=>Nf (a:=dig t) bG hb w1
 have hdg2:∀ (t:Bs) w1,t.length≤65536→Below w.heap.size w w1→Calls Tryz.prog 70 #[.string (sb t)] w1 fun e w2=>e=.returned (.agg (usV (dig t)).toArray)∧Below w1.heap.size w1 w2:=fun t w1 ht hb=>Sj hr hb t (by omega)
 have hal:(usV a).length=16:=by rw [yaM,ha]
 have hbl:(usV b).length=16:=by rw [yaM,hb]
 have hdg:∀ w1,Below w.heap.size w w1→Calls Tryz.prog 70 #[.string (sb old)] w1 fun e w2=>e=.returned (.agg (usV (dig old)).toArray)∧Below w1.heap.size w1 w2:=fun w1 hb=>Sj hr hb old (by omega)
 generalize usV a=A at *
 generalize usV b=A' at *
 generalize usV (dig old)=D at *
 have i23:(Tryz.prog.info? 23).map (·.size)=some A.length:=by rw [hal];rfl
 go_region_held3 (fun w'=>w'.rangeAt w.heap.size 0 A∧Bx w.heap.size A A' s (.slice pp l.length cap) w'∧Below w.heap.size w w') (first|exact ⟨hbx.1,hbx,hbe⟩|exact Zn (by assumption) (by assumption))
  (first|(go_at_call 70;refine (hdg _ ?_).mono ?_;(first|assumption|(rename_i hs;exact hs.2.2));rintro e w1 ⟨rfl,hb1⟩))
 rename_i w1 hs
 obtain ⟨-,hb1,hbw⟩:=hs
 have hB0:=hb1.2.2.2.2
 have hfb:Below w1.heap.size w1 (w1.alloc (Obj.cells #[Value.pointer none,Value.slice none 0 0] 124)):=(Below.refl _ w1).alloc (yab _) _
 have c33:=(hb1.below hfb hB0).2.2.2.1
 by_cases hq:(!dig old==a)=true
 ·go_wp2
  ·go_ret2
   have h0:apE old a b s l=8:=by unfold apE;rw [if_pos (by simpa using hq)]
   have h9:apR old a b s l=[]:=by unfold apR;rw [if_pos (by rw [h0];decide)]
   rw [h0,h9]
   exact ⟨rfl,hbw⟩
  ·exfalso
   have hf:(!dig old==a)=false:=by assumption
   rw [hq] at hf;cases hf
 ·go_wp2
  have hdq:dig old=a:=by simpa using hq
  have hE0:apE old a b s l=match apN old l [] with
   | none=>3
   | some t=>if (t.length:Int)≠s then 3 else if dig t≠b then 8 else 0:=if_neg (by simp [hdq])
  have hwB:w.heap.size<w1.heap.size:=hB0
  have hqf:(!dig old==a)=false:=by simpa using hq
  rw [hqf]
  go_loopw [18] (fun i wr=>∃ (k:Nat) (o:Bs),i=.int .i64 k∧k≤l.length∧o.length≤65536∧apN old (l.drop k) o=apN old l []∧Lib.IsBuilder 124 5 w1.heap.size w1.heap.size (Lib.byteCells o) wr∧Below w1.heap.size w1 wr) (fun i _=>l.length-(Go.RowKit.intOf i).toNat)
  case atStart=>exact ⟨0,[],rfl,yag _,by simp,rfl,Lib.fresh_isBuilder 124 5 w1,hfb⟩
  case round =>
   obtain ⟨k,o,rfl,hk,ho,hap,hI,hbwr⟩:=hrel
   by_cases hp:k<l.length
   ·rw [hpp (fun h=>by rw [h] at hp;exact yaQ _ hp)]
    obtain ⟨p0,p1,p2,p3⟩:=hop k hp
    have hbb:=hbw.trans (hbwr.mono (yaL hwB))
    rw [←hbb.cell (p:=⟨blk,off+k*3,none⟩) p3] at p0
    rw [←hbb.cell (p:=⟨blk,off+k*3+1,none⟩) p3] at p1
    rw [←hbb.cell (p:=⟨blk,off+k*3+2,none⟩) p3] at p2
    rw [Og hp] at hap
    have hxk:=hx _ (yaj hp)
    have hpt:(k:Int)<(l.length:Int):=by omega
    generalize l[k]=x at *
    by_cases hbad:vI old x
    ·rw [if_pos hbad] at hap
     have hap':none=apN old l []:=hap
     rw [←hap'] at hE0
     have hE3:apE old a b s l=3:=hE0
     have hR3:apR old a b s l=[]:=by unfold apR;rw [if_pos (by rw [hE3];decide)]
     have hend:∀ W,Below wr.heap.size wr W→Below w.heap.size w W:=fun W hW=>hbb.trans (hW.mono hbb.size)
     have hAl:Below wr.heap.size wr (wr.alloc (Obj.cells #[.int .i64 x.1,.int .i64 x.2.1,.string (sb x.2.2)] 109)):=(Below.refl _ wr).alloc (yab _) _
     have hAl2:=hend _ hAl
     rcases hbad with ⟨he,hbd⟩|⟨he,hbd⟩
     ·have hS:(sb x.2.2).toList=[]:=by rw [dU];exact he
      have hSz:((sb x.2.2).size:Int)=x.2.2.length:=rfl
      generalize sb x.2.2=S at *
      go_wp2_with fail
      all_goals (first|(go_ret2;exact ⟨rfl,hAl2⟩)|(exfalso;simp only [bR] at *;omega))
     ·have hS:¬(sb x.2.2).toList=[]:=by rw [dU];exact he
      have hS2:(sb x.2.2).toList.isEmpty=false:=by rw [ybv];exact hS
      generalize sb x.2.2=S at *
      go_wp2_with fail
      all_goals (first|(go_ret2;exact ⟨rfl,hend _ ((Below.refl _ wr).alloc (yab _) _)⟩)|skip)
    ·rw [if_neg hbad] at hap
     have hI2:=Iy hI (Obj.cells #[.int .i64 x.1,.int .i64 x.2.1,.string (sb x.2.2)] 109)
     have hA109:Below w1.heap.size w1 (wr.alloc (Obj.cells #[.int .i64 x.1,.int .i64 x.2.1,.string (sb x.2.2)] 109)):=hbwr.alloc hbwr.size _
     have hout:(eL old x).length≤100000:=by
      unfold eL
      split
      ·simp;omega
      ·exact hxk
     by_cases he:x.2.2=[]
     ·have hoe:eL old x=(old.take x.2.1.toNat).drop x.1.toNat:=if_pos he
      have hnb:0≤x.1∧x.1<x.2.1∧x.2.1≤old.length:=by
       have:¬(x.1<0∨x.1≥x.2.1∨x.2.1>old.length):=fun h=>hbad (.inl ⟨he,h⟩)
       omega
      have hS:(sb x.2.2).toList=[]:=by rw [dU];exact he
      have hn1:=hnb.1
      have hn2:x.1≤x.2.1:=by omega
      have hn3:x.2.1≤((sb old).size:Int):=hnb.2.2
      have hn4:=hnb.2.1
      have hsx:(sb old).extract x.1.toNat x.2.1.toNat=sb (eL old x):=by rw [iK,hoe]
      clear hnb hoe
      generalize sb x.2.2=S at *
      go_wp2_with (go_at_call 74;refine (Any.Builder_WriteString Tryz.bld166 Tryz.bldX _ _ _ _ _ hI2 ?_ hA109.size).mono ?_)
      ·rw [Lib.byteCells_length];show o.length+(eL old x).length≤_;omega
      rintro e W1 ⟨rfl,h1b,b1⟩
      have hI3:Lib.IsBuilder 124 5 w1.heap.size w1.heap.size (Lib.byteCells (o++eL old x)) W1:=.inr (by rw [Lib.byteCells_append];exact h1b)
      have hB3:Below w1.heap.size w1 W1:=hA109.trans b1
      go_wp2_with (go_at_call 75;refine (Any.Builder_Len Tryz.bld170 _ _ _ _ hI3).mono ?_)
      rintro e W2 ⟨rfl,rfl⟩
      have hlo:((o++eL old x).length:Int)=(o.length:Int)+((eL old x).length:Int):=by rw [yaa];omega
      by_cases h65:65536<(o++eL old x).length
      ·rw [if_pos h65] at hap
       have hap':none=apN old l []:=hap
       rw [←hap'] at hE0
       have hE3:apE old a b s l=3:=hE0
       have hR3:apR old a b s l=[]:=by unfold apR;rw [if_pos (by rw [hE3];decide)]
       go_wp2
       ·go_ret2
        rw [hE3,hR3]
        exact ⟨rfl,hbw.trans (hB3.mono (yaL hwB))⟩
       ·exfalso;have h3:=Lib.byteCells_length (o++eL old x);omega
      ·rw [if_neg h65] at hap
       go_wp2
       ·exfalso;have h3:=Lib.byteCells_length (o++eL old x);omega
       ·go_roundw
        case rel=>exact ⟨k+1,o++eL old x,by simp,by omega,by omega,hap,hI3,hB3⟩
        case measure=>simp only [Go.RowKit.intOf];omega
     ·have hoe:eL old x=x.2.2:=if_neg he
      have h0:x.1=0∧x.2.1=0:=by
       have:¬(x.1≠0∨x.2.1≠0):=fun h=>hbad (.inr ⟨he,h⟩)
       omega
      have hS:¬(sb x.2.2).toList=[]:=by rw [dU];exact he
      have hS2:(sb x.2.2).toList.isEmpty=false:=by rw [ybv];exact hS
      obtain ⟨h01,h02⟩:=h0
      rw [←hoe] at hS hS2 hI2 hA109 p2
      rw [h01] at hI2 hA109 p0
      rw [h02] at hI2 hA109 p1
      clear hoe
      go_wp2_with (go_at_call 74;refine (Any.Builder_WriteString Tryz.bld166 Tryz.bldX _ _ _ _ _ hI2 ?_ hA109.size).mono ?_)
      ·rw [Lib.byteCells_length];show o.length+(eL old x).length≤_;omega
      rintro e W1 ⟨rfl,h1b,b1⟩
      have hI3:Lib.IsBuilder 124 5 w1.heap.size w1.heap.size (Lib.byteCells (o++eL old x)) W1:=.inr (by rw [Lib.byteCells_append];exact h1b)
      have hB3:Below w1.heap.size w1 W1:=hA109.trans b1
      go_wp2_with (go_at_call 75;refine (Any.Builder_Len Tryz.bld170 _ _ _ _ hI3).mono ?_)
      rintro e W2 ⟨rfl,rfl⟩
      have hlo:((o++eL old x).length:Int)=(o.length:Int)+((eL old x).length:Int):=by rw [yaa];omega
      by_cases h65:65536<(o++eL old x).length
      ·rw [if_pos h65] at hap
       have hap':none=apN old l []:=hap
       rw [←hap'] at hE0
       have hE3:apE old a b s l=3:=hE0
       have hR3:apR old a b s l=[]:=by unfold apR;rw [if_pos (by rw [hE3];decide)]
       go_wp2
       ·go_ret2
        rw [hE3,hR3]
        exact ⟨rfl,hbw.trans (hB3.mono (yaL hwB))⟩
       ·exfalso;have h3:=Lib.byteCells_length (o++eL old x);omega
      ·rw [if_neg h65] at hap
       go_wp2
       ·exfalso;have h3:=Lib.byteCells_length (o++eL old x);omega
       ·go_roundw
        case rel=>exact ⟨k+1,o++eL old x,by simp,by omega,by omega,hap,hI3,hB3⟩
        case measure=>simp only [Go.RowKit.intOf];omega
   ·have hke:k=l.length:=by omega
    subst hke
    rw [List.drop_length] at hap
    have hap':some o=apN old l []:=hap
    rw [←hap'] at hE0
    simp only at hE0
    go_wp2_with (go_at_call 76;refine (Any.Builder_String_any_f Tryz.bld169 Tryz.bldX _ _ o _ (Lib.IsBuilderF.of hI) hbwr.size).mono ?_)
    rintro e W1 ⟨rfl,hF,b1⟩
    have hB3:Below w1.heap.size w1 W1:=hbwr.trans b1
    have hbx1:=hb1.below hB3 hB0
    have c32:=hbx1.2.2.1
    have hbw1:Below w.heap.size w W1:=hbw.trans (hB3.mono (yaL hwB))
    have hs1:W1.drew.rangeAt w.heap.size 16 A'∧Bx w.heap.size A A' s (.slice pp l.length cap) W1.drew∧Below W1.heap.size W1 W1.drew∧Below w.heap.size w W1.drew:=⟨(hbx1.below ((Below.refl W1.heap.size W1).drew) hbx1.2.2.2.2).2.1,hbx1.below ((Below.refl W1.heap.size W1).drew) hbx1.2.2.2.2,(Below.refl _ _).drew,hbw1.drew⟩
    have heq3:=heq2 o
    have hdg3:=fun w'=>hdg2 o w' ho
    generalize usV (dig o)=D3 at *
    have i23':(Tryz.prog.info? 23).map (·.size)=some A'.length:=by rw [hbl];rfl
    go_wp2
    ·have hne:(o.length:Int)≠s:=by
      have hn:¬(((({ data:=ybj o }:ByteArray).size:Nat):Int)=s):=by first|assumption|(simp only [bR] at *;assumption)|(simp at *;assumption)
      exact hn
     rw [if_pos hne] at hE0
     have hR3:apR old a b s l=[]:=by unfold apR;rw [if_pos (by rw [hE0];decide)]
     go_ret2
     rw [hE0,hR3]
     exact ⟨rfl,hbw1⟩
    ·show Code.wp _ _ _ _ _
     go_region_held3 (fun w'=>w'.rangeAt w.heap.size 16 A'∧Bx w.heap.size A A' s (.slice pp l.length cap) w'∧Below W1.heap.size W1 w'∧Below w.heap.size w w') (first|exact hs1|exact Zm (by assumption) (by assumption))
      (first|(go_at_call 70;refine (hdg3 _ ?_).mono ?_;(exact Vf (by assumption));rintro e w1 ⟨rfl,hb1⟩))
     rename_i W2 hs2
     obtain ⟨-,-,hb2,hbw2⟩:=hs2
     by_cases hq2:(!dig o==b)=true
     ·go_wp2
      ·have hs2:(o.length:Int)=s:=by
        have hn:(((({ data:=ybj o }:ByteArray).size:Nat):Int)=s):=by first|assumption|(simp only [bR] at *;assumption)|(simp at *;assumption)
        exact hn
       have hdb:dig o≠b:=by simpa using hq2
       rw [if_neg (by simpa using hs2),if_pos hdb] at hE0
       have hR8:apR old a b s l=[]:=by unfold apR;rw [if_pos (by rw [hE0];decide)]
       go_ret2
       rw [hE0,hR8]
       exact ⟨rfl,hbw2⟩
      ·exfalso
       have hf:(!dig o==b)=false:=by assumption
       rw [hq2] at hf;cases hf
     ·have hqf2:(!dig o==b)=false:=by simpa using hq2
      have hF2:=hF.below hb2
      have hdb:dig o=b:=by simpa using hqf2
      have hR0:apE old a b s l=0→apR old a b s l=o:=by
       intro h
       unfold apR
       rw [if_neg (by rw [h];decide),←hap']
       rfl
      have hs2:(o.length:Int)=s:=by
       have hn:(((({ data:=ybj o }:ByteArray).size:Nat):Int)=s):=by first|assumption|(simp only [bR] at *;assumption)|(simp at *;assumption)
       exact hn
      rw [if_neg (by simpa using hs2),if_neg (by simp [hdb])] at hE0
      go_wp2_with (go_at_call 76;refine (Any.Builder_String_any_f Tryz.bld169 Tryz.bldX _ _ o _ hF2 (ybb hB3.size hb2.size)).mono ?_)
      rintro e W3 ⟨rfl,hF3,b3⟩
      go_wp2
      all_goals go_ret2
      rw [hR0 hE0,hE0]
      exact ⟨rfl,hbw2.trans (b3.mono (ybb (yaL hwB) (yab _)))⟩
end Go.Fx.H
namespace Go.Fx.H
open Go Go.Fx Go.Proofs Go.Fx.R
set_option maxRecDepth 20000
theorem c13_parts:c13=.seq (pt 0 c13) (.seq (pt 1 c13) (.seq (pt 2 c13) (.seq (pt 3 c13) (.seq (pt 4 c13) (.seq (pt 5 c13) (.seq (pt 6 c13) (.seq (pt 7 c13) (.seq (pt 8 c13) (.seq (pt 9 c13) (.seq (pt 10 c13) (rt 11 c13))))))))))):=by rfl
theorem Jq:xM.okP:=by decide
theorem Dn:xM.rt.length=16:=by
 show (root [l0,l1,l2]).length=16
 rw [Jp];exact lK
theorem Rn:V.v (.string ⟨#[97,98,99,100,101,102,103,104,105,106]⟩)=sv xA:=rfl
section
variable {N R:St→Prop} {X:Nat→St→Prop} {e:Env} {bb:Nat}
theorem xE {h:List Blk} {g:Nat→Option Nat} {x y:List V}:aZ h g (x++y)=aZ h g x++aZ h g y:=by
 induction x with
 | nil=>rfl
 | cons u r ih=>simp [aZ,ih]
theorem sA {h:List Blk} {g:Nat→Option Nat} {x y:List V} (h1:aM h g x) (h2:aM h g y):aM h g (x++y):=by
 induction x with
 | nil=>exact h2
 | cons u r ih=>exact ⟨h1.1,ih h1.2⟩
theorem Aw {h:List Blk} {g:Nat→Option Nat} {l:Bs}:aZ h g (us l)=us l:=by
 unfold us
 induction l with
 | nil=>rfl
 | cons x r ih=>simp [aZ,dD,ih]
theorem dJ {h:List Blk} {g:Nat→Option Nat} {a b:Bs} {s:Int} {l:List Op}:aM h g (pe a b s (rO l))∧wkL (pe a b s (rO l)) (aZ h g (pe a b s (rO l))):=by
 constructor
 ·unfold pe
  exact sA dT.1 (sA dT.1 ⟨trivial,trivial,trivial⟩)
 ·have:aZ h g (pe a b s (rO l))=pe a b s (rO l):=by
   unfold pe
   rw [xE,xE,Aw,Aw];rfl
  rw [this]
  exact Lm ⟨rfl,rfl⟩
theorem eqS {s:Sp} {a b:Int} {K:Bool→Prop}:(cO (j6 (.agg (enS s))) fun xs=>cO (j6 (.agg [V.v (.int .i64 a),V.v (.int .i64 b)])) fun ys=>eX xs ys [(0,.int .i64),(1,.int .i64)] K)=K (s==(a,b)):=by
 have e:(s==(a,b))=((s.1==a)&&((s.2==b)&&true)):=by
  obtain ⟨x,y⟩:=s
  rw [Bool.and_true];rfl
 rw [e]
 exact propext ⟨fun h=>h.2.2,fun h=>⟨⟨rfl,rfl⟩,⟨rfl,rfl⟩,h⟩⟩
theorem Vt {s:Op} {a b:Int} {c:Bs} {K:Bool→Prop}:(cO (j6 (.agg [.i s.1,.i s.2.1,sv s.2.2])) fun xs=>cO (j6 (.agg [V.v (.int .i64 a),V.v (.int .i64 b),sv c])) fun ys=>eX xs ys [(0,.int .i64),(1,.int .i64),(2,.string)] K)=K (s==(a,b,c)):=eqO (y:=(a,b,c))
theorem Xh (hN:∀ e b,get e 1=.ptr 0 0 0→get e 2=.i 0→N ⟨e,[.var xM.enc],b⟩):aw cE (pt 1 c13) N X R ⟨e,[],bb⟩:=by
 conv=>arg 2;whnf
 simp -implicitDefEqProofs only [rX,aA,cxN,Rn]
 have o:=Yb xA 4 (by decide)
 rw [x_M,h3] at o
 obtain ⟨q1,q2,q3⟩:=nK (m:=xM) Dn
 refine aE o ⟨⟨trivial,trivial,trivial⟩,rfl,rfl,trivial⟩ (by simp [ren,bZ,Bw]) trivial ?_
 simp -implicitDefEqProofs only [rX,↓rY,aA,cells?,splice,↓reduceIte,Nat.reduceEqDiff,aD,zM,q1,Hc]
 obtain ⟨v1,v2,v3⟩:=nK (m:=Ap) rfl
 rw [v1,v3,yax]
 exact ⟨yab _,hN _ _ rfl rfl⟩
theorem Xg (g1:get e 1=.ptr 0 0 0) (g2:get e 2=.i 0) (hN:∀ e b,get e 1=.ptr 0 0 0→get e 2=.i 0→get e 3=rD [nd l0 l1]→get e 4=.i 0→N ⟨e,[.var xM.enc],b⟩):aw cE (pt 2 c13) N X R ⟨e,[.var xM.enc],bb⟩:=by
 conv=>arg 2;whnf
 simp -implicitDefEqProofs only [rX,aA,cxN,Rn]
 have o:=acZ xA 4 2 (by decide)
 rw [x_P.1,x_P.2] at o
 refine aE o ⟨⟨trivial,trivial,trivial,trivial⟩,rfl,rfl,rfl,trivial⟩ rfl trivial ?_
 simp -implicitDefEqProofs only [rX,↓rY,↓reduceIte,Nat.reduceEqDiff]
 refine hN _ _ ?_ ?_ ?_ ?_
 ·exact g1
 ·exact g2
 ·rfl
 ·rfl
theorem Xf (g1:get e 1=.ptr 0 0 0) (g2:get e 2=.i 0) (g3:get e 3=rD [nd l0 l1]) (g4:get e 4=.i 0) (hN:∀ e b,get e 1=.ptr 0 0 0→get e 5=.b true→N ⟨e,[.var xM.enc],b⟩):aw cE (pt 3 c13) N X R ⟨e,[.var xM.enc],bb⟩:=by
 obtain ⟨q1,q2,q3⟩:=nK (m:=xM) Dn
 conv=>arg 2;whnf
 simp -implicitDefEqProofs only [rX,↓rY,aA,↓reduceIte,Nat.reduceEqDiff,cxN,g1,g2,g4,q1,q2,beq_self_eq_true]
 have e1:xM.n=3:=by decide
 have e2:xM.span 2=(8,10):=by decide
 have dP:D16 [nd l0 l1]:=by intro d hd;simp at hd;subst hd;exact lK
 have o1:=Qe xM Jq
 have o2:=Ya xM 2 Jq Dn
 have o3:=Xz xM 2 [105,106] [nd l0 l1] Jq Dn (by decide) dP (by decide)
 have o4:=Xz xM 2 [105,120] [nd l0 l1] Jq Dn (by decide) dP (by decide)
 rw [e1] at o1
 rw [e2] at o2
 rw [x_C] at o3
 rw [abV] at o4
 refine aE o1 s7 rfl trivial ?_
 simp -implicitDefEqProofs only [rX,↓rY,aA,↓reduceIte,Nat.reduceEqDiff,g1,q1,q2,beq_self_eq_true]
 refine aE o2 ⟨⟨dE.1,trivial,trivial⟩,dE.2,rfl,trivial⟩ rfl trivial ?_
 simp -implicitDefEqProofs only [rX,↓rY,aA,cells?,splice,↓reduceIte,Nat.reduceEqDiff,Nat.reduceAdd,bV,Nat.reduceLeDiff,g1,g3,q1,q2]
 rw [eqS,beq_self_eq_true,kb]
 refine aE o3 ⟨⟨dE.1,trivial,trivial,trivial,trivial⟩,dE.2,rfl,rfl,⟨rfl,rfl⟩,trivial⟩ rfl trivial ?_
 simp -implicitDefEqProofs only [rX,↓rY,aA,↓reduceIte,Nat.reduceEqDiff,g1,g3,q1,q2,beq_self_eq_true,kb]
 refine aE o4 ⟨⟨dE.1,trivial,trivial,trivial,trivial⟩,dE.2,rfl,rfl,⟨rfl,rfl⟩,trivial⟩ rfl trivial ?_
 simp -implicitDefEqProofs only [rX,↓rY,aA,↓reduceIte,Nat.reduceEqDiff,beq_self_eq_true,kb]
 refine hN _ _ ?_ ?_
 ·exact g1
 ·rfl
theorem Yg (l:List Sp) (most:Int) (hl:l.length≤40) (hm:most≤9223372036854775807):OkN Tryz.prog 17 [.sl 0 0 l.length,.i most] [.arr 2 (l.map enS)] [0] (IsA (.tup [aN (Fj l most),.i (Cz l most)]) [.dead]):=by
 have ht:yai l.length (l.map enS)=l.map enS:=yad (by simp)
 exact yS (xs:=[.sl 0 0 l.length,.i most]) (h0:=[.arr 2 (l.map enS)]) (adA l most hl hm) (by simp [gvL,gvV,wkL,wk,wkR,blk,ht])
theorem Sc (a l:List Sp):OkN Tryz.prog 16 [aN a,.sl 0 0 l.length] [.arr 2 (l.map enS)] [0] (IsA (.b (a==l)) [.dead]):=by
 have ht:yai l.length (l.map enS)=l.map enS:=yad (by simp)
 exact yS (xs:=[aN a,.sl 0 0 l.length]) (h0:=[.arr 2 (l.map enS)]) (adB a l) (by simp [gvL,gvV,wkL,wk,wkR,blk,ht])
theorem Yl (m:Man) (ls:List Bs) (t:Bs) (l:List Sp) (hm:m.okP) (hr:m.rt.length=16) (hD:D16 ls) (hl:ls.length≤1000000000) (ht:t.length≤1000000000) (hh:l.length≤1000000000) :
  OkN Tryz.prog 14 [.agg m.enc,.ro 16 (ls.map us),sv t,.sl 0 0 l.length] [.arr 2 (l.map enS)] [0] (IsA (.tup [aN (dmL m ls t l),.i (dmE m ls t l)]) [.dead]):=by
 have ht2:yai l.length (l.map enS)=l.map enS:=yad (by simp)
 refine yS (xs:=[.agg m.enc,.ro 16 (ls.map us),sv t,.sl 0 0 l.length]) (h0:=[.arr 2 (l.map enS)]) (adC m ls t l hm hr hD hl ht hh) ?_
 have hg:gvL (fun _=>true) [.arr 2 (l.map enS)] m.enc=m.enc:=Vc
 simp [gvL,gvV,wkL,wk,wkR,blk,ht2,hg]
 exact ⟨⟨rfl,rfl,Kc⟩,rfl,rfl⟩
theorem Xe (g1:get e 1=.ptr 0 0 0) (g5:get e 5=.b true) (hN:∀ e b,get e 1=.ptr 0 0 0→get e 5=.b true→get e 6=aN [(0,2),(5,9)]→get e 7=.i 0→N ⟨e,[.var xM.enc,.dead],b⟩):aw cE (pt 4 c13) N X R ⟨e,[.var xM.enc],bb⟩:=by
 conv=>arg 2;whnf
 simp -implicitDefEqProofs only [rX,↓rY,aA,cells?,splice,↓reduceIte,Nat.reduceEqDiff,Nat.reduceAdd,aD,bV,cB,isD,Nat.reduceLT,Nat.reduceLeDiff,cxN]
 have o:=Yg [(0,2),(5,6),(8,9)] 2 (by decide) (by decide)
 rw [h4,h5] at o
 have k1:get (aQ [1] e) 1=.ptr 0 0 0:=by rw [aY,g1];rfl
 have k5:get (aQ [1] e) 5=.b true:=by rw [aY,g5];rfl
 refine dN [1] [0] [1] [.sl 0 0 3,.i 2] _ (.tup [aN [(0,2),(5,9)],.i 0]) [.arr 2 ([((0:Int),(2:Int)),(5,6),(8,9)].map enS)] [.dead] [.var xM.enc,.dead] _ o (by simp) (by simp) (by simp [blk,bO,enS]) (by simp [aM,bK,aZ,dD,wkL,wk,wkR,pos]) (by simp [bN,bO,a7,hO]) rfl rfl trivial ?_
 simp -implicitDefEqProofs only [rX,↓rY,↓reduceIte,Nat.reduceEqDiff,aQ,kill,bE,St.kill]
 refine hN _ _ ?_ ?_ ?_ ?_
 ·exact k1
 ·exact k5
 ·rfl
 ·rfl
theorem Xd (g1:get e 1=.ptr 0 0 0) (g5:get e 5=.b true) (g6:get e 6=aN [(0,2),(5,9)]) (g7:get e 7=.i 0) (hN:∀ e b,get e 1=.ptr 0 0 0→get e 5=.b true→get e 8=.b true→N ⟨e,[.var xM.enc,.dead,.dead],b⟩):aw cE (pt 5 c13) N X R ⟨e,[.var xM.enc,.dead],bb⟩:=by
 conv=>arg 2;whnf
 simp -implicitDefEqProofs only [rX,↓rY,aA,cells?,splice,↓reduceIte,Nat.reduceEqDiff,Nat.reduceAdd,aD,bV,cB,isD,Nat.reduceLT,Nat.reduceLeDiff,cxN,g6,g7,beq_self_eq_true]
 have o:=Sc [(0,2),(5,9)] [(0,2),(5,9)]
 rw [beq_self_eq_true] at o
 have k1:get (aQ [2] e) 1=.ptr 0 0 0:=by rw [aY,g1];rfl
 have k5:get (aQ [2] e) 5=.b true:=by rw [aY,g5];rfl
 refine dN [2] [0] [2] [aN [(0,2),(5,9)],.sl 0 0 2] _ (.b true) [.arr 2 ([((0:Int),(2:Int)),(5,9)].map enS)] [.dead] [.var xM.enc,.dead,.dead] _ o (by simp) (by simp) (by simp [blk,bO,enS]) (by simp [aM,bK,aZ,dD,wkL,wk,wkR,pos]) (by simp [bN,bO,a7,hO]) rfl rfl trivial ?_
 simp -implicitDefEqProofs only [rX,↓rY,↓reduceIte,Nat.reduceEqDiff,aQ,kill,bE,St.kill]
 refine hN _ _ ?_ ?_ ?_
 ·exact k1
 ·exact k5
 ·rfl
theorem Xc (g1:get e 1=.ptr 0 0 0) (g5:get e 5=.b true) (g8:get e 8=.b true) (hN:∀ e b,get e 1=.ptr 0 0 0→get e 5=.b true→get e 8=.b true→get e 9=.ptr 3 0 0→get e 10=.i 0→N ⟨e,[.var xM.enc,.dead,.dead,.var (pe (dig yA) (dig yB) 9 (rO yO))],b⟩):aw cE (pt 6 c13) N X R ⟨e,[.var xM.enc,.dead,.dead],bb⟩:=by
 conv=>arg 2;whnf
 have o:=Yd yA yB 4 (by decide) (by decide)
 rw [y_P,y_O,y_E] at o
 simp -implicitDefEqProofs only [rX,aA,Nat.reduceAdd,cxN]
 have d1:(dig yA).length=16:=bG
 have d2:(dig yB).length=16:=bG
 refine aE o ⟨⟨trivial,trivial,trivial,trivial⟩,rfl,rfl,rfl,trivial⟩ (by simp [ren,bZ,iY];rfl) trivial ?_
 simp -implicitDefEqProofs only [rX,↓rY,aA,cells?,splice,↓reduceIte,Nat.reduceEqDiff,aD,tJ,gJ,eU,cR,d1,d2]
 refine ⟨yP rfl,hN _ _ ?_ ?_ ?_ ?_ ?_⟩
 ·exact g1
 ·exact g5
 ·exact g8
 ·rfl
 ·rfl
abbrev hS:List Blk:=[.var xM.enc,.dead,.dead,.var (pe (dig yA) (dig yB) 9 (rO yO))]
theorem Xb (g1:get e 1=.ptr 0 0 0) (g5:get e 5=.b true) (g8:get e 8=.b true) (g9:get e 9=.ptr 3 0 0) (g10:get e 10=.i 0) (hN:∀ e b,get e 1=.ptr 0 0 0→get e 5=.b true→get e 8=.b true→get e 9=.ptr 3 0 0→get e 11=.b true→N ⟨e,hS,b⟩):aw cE (pt 7 c13) N X R ⟨e,hS,bb⟩:=by
 have d1:(dig yA).length=16:=bG
 have d2:(dig yB).length=16:=bG
 have o:=Yc (dig yA) (dig yB) 9 yO d1 d2 (by decide) (by decide)
 rw [y_W] at o
 conv=>arg 2;whnf
 simp -implicitDefEqProofs only [rX,↓rY,aA,↓reduceIte,Nat.reduceEqDiff,Nat.reduceAdd,cxN,nL,g9,g10,gJ,gC,d1,d2,beq_self_eq_true]
 refine aE o ⟨⟨dJ.1,trivial⟩,dJ.2,trivial⟩ rfl trivial ?_
 simp -implicitDefEqProofs only [rX,↓rY,aA,cells?,splice,↓reduceIte,Nat.reduceEqDiff,Nat.reduceAdd,bV,Nat.reduceLeDiff,g9,Bp,d1,d2,beq_self_eq_true]
 intro _
 simp only [show (((3:Nat):Int)==3)=true from rfl,kb]
 refine ⟨by decide,by decide,by decide,?_⟩
 refine Eq.mpr (Vt (s:=((0:Int),(4:Int),([]:Bs))) (a:=0) (b:=4) (c:=[])) ?_
 simp only [beq_self_eq_true,kb]
 refine ⟨by decide,by decide,by decide,?_⟩
 refine Eq.mpr (Vt (s:=((0:Int),(0:Int),([88]:Bs))) (a:=0) (b:=0) (c:=[88])) ?_
 simp only [beq_self_eq_true,kb]
 refine ⟨by decide,by decide,by decide,?_⟩
 refine Eq.mpr (Vt (s:=((4:Int),(8:Int),([]:Bs))) (a:=4) (b:=8) (c:=[])) ?_
 simp only [beq_self_eq_true,kb]
 refine hN _ _ ?_ ?_ ?_ ?_ ?_
 ·exact g1
 ·exact g5
 ·exact g8
 ·exact g9
 ·rfl
def A22:Prop:=∀ (old a b:Bs) (s:Int) (l:List Op),old.length≤1000→a.length=16→b.length=16→l.length≤1000→(∀ x∈l,x.2.2.length≤1000)→Ok 22 [sv old,.agg (pe a b s (rO l))] (Is (.tup [sv (apR old a b s l),.i (apE old a b s l)]))
theorem Xa (A:A22) (g1:get e 1=.ptr 0 0 0) (g5:get e 5=.b true) (g8:get e 8=.b true) (g9:get e 9=.ptr 3 0 0) (g11:get e 11=.b true) (hN:∀ e b,get e 1=.ptr 0 0 0→get e 5=.b true→get e 8=.b true→get e 9=.ptr 3 0 0→get e 11=.b true→get e 12=sv yB→get e 13=.i 0→N ⟨e,hS,b⟩):aw cE (pt 8 c13) N X R ⟨e,hS,bb⟩:=by
 have d1:(dig yA).length=16:=bG
 have d2:(dig yB).length=16:=bG
 have o:=A yA (dig yA) (dig yB) 9 yO (by decide) d1 d2 (by decide) (by decide)
 rw [y_A,y_S] at o
 conv=>arg 2;whnf
 simp -implicitDefEqProofs only [rX,↓rY,aA,↓reduceIte,Nat.reduceAdd,cxN,g9,gJ,gC,d1,d2]
 refine aE o ⟨⟨trivial,dJ.1,trivial⟩,rfl,dJ.2,trivial⟩ rfl trivial ?_
 simp -implicitDefEqProofs only [rX,↓rY,↓reduceIte,Nat.reduceEqDiff]
 refine hN _ _ ?_ ?_ ?_ ?_ ?_ ?_ ?_
 ·exact g1
 ·exact g5
 ·exact g8
 ·exact g9
 ·exact g11
 ·rfl
 ·rfl
theorem Wz (A:A22) (g1:get e 1=.ptr 0 0 0) (g5:get e 5=.b true) (g8:get e 8=.b true) (g9:get e 9=.ptr 3 0 0) (g11:get e 11=.b true) (g12:get e 12=sv yB) (g13:get e 13=.i 0) (hN:∀ e b,get e 1=.ptr 0 0 0→get e 5=.b true→get e 8=.b true→get e 11=.b true→get e 12=sv yB→get e 13=.i 0→get e 15=.i 8→N ⟨e,hS,b⟩):aw cE (pt 9 c13) N X R ⟨e,hS,bb⟩:=by
 have d1:(dig yA).length=16:=bG
 have d2:(dig yB).length=16:=bG
 have o:=A yC (dig yA) (dig yB) 9 yO (by decide) d1 d2 (by decide) (by decide)
 rw [y_B] at o
 conv=>arg 2;whnf
 simp -implicitDefEqProofs only [rX,↓rY,aA,↓reduceIte,Nat.reduceAdd,cxN,g9,gJ,gC,d1,d2]
 refine aE o ⟨⟨trivial,dJ.1,trivial⟩,rfl,dJ.2,trivial⟩ rfl trivial ?_
 simp -implicitDefEqProofs only [rX,↓rY,↓reduceIte,Nat.reduceEqDiff]
 refine hN _ _ ?_ ?_ ?_ ?_ ?_ ?_ ?_
 ·exact g1
 ·exact g5
 ·exact g8
 ·exact g11
 ·exact g12
 ·exact g13
 ·rfl
theorem Ub (g1:get e 1=.ptr 0 0 0) (g5:get e 5=.b true) (g8:get e 8=.b true) (g11:get e 11=.b true) (g12:get e 12=sv yB) (g13:get e 13=.i 0) (g15:get e 15=.i 8) (hN:∀ e b,get e 5=.b true→get e 8=.b true→get e 11=.b true→get e 12=sv yB→get e 13=.i 0→get e 15=.i 8→get e 16=aN [(4,8)]→get e 17=.i 0→N ⟨e,hS++[.dead],b⟩):aw cE (pt 10 c13) N X R ⟨e,hS,bb⟩:=by
 obtain ⟨q1,q2,q3⟩:=nK (m:=xM) Dn
 have o3:=Uu xA 4 (by decide) (by decide)
 rw [xL] at o3
 have dL:D16 [l0,l1,l2]:=by
  intro d hd
  simp at hd
  rcases hd with rfl|rfl|rfl<;>exact n7
 have o:=Yl xM [l0,l1,l2] xB [(0,10)] Jq Dn dL (by decide) (by decide) (by decide)
 rw [abT,Wi] at o
 conv=>arg 2;whnf
 simp -implicitDefEqProofs only [rX,↓rY,rdK,aA,cells?,splice,↓reduceIte,Nat.reduceEqDiff,Nat.reduceAdd,aD,bV,cB,isD,Nat.reduceLT,cxN,g1,q1,q2]
 have k5:get (aQ [4] e) 5=.b true:=by rw [aY,g5];rfl
 have k8:get (aQ [4] e) 8=.b true:=by rw [aY,g8];rfl
 have k11:get (aQ [4] e) 11=.b true:=by rw [aY,g11];rfl
 have k12:get (aQ [4] e) 12=sv yB:=by rw [aY,g12];rfl
 have k13:get (aQ [4] e) 13=.i 0:=by rw [aY,g13];rfl
 have k15:get (aQ [4] e) 15=.i 8:=by rw [aY,g15];rfl
 refine ⟨?_,?_⟩
 ·refine aE o3 ⟨⟨trivial,trivial,trivial⟩,rfl,rfl,trivial⟩ rfl trivial ?_
  simp -implicitDefEqProofs only [rX,↓rY,aA,cells?,↓reduceIte,Nat.reduceEqDiff,Nat.reduceAdd,aD,cB,isD,Nat.reduceLT]
  refine dN [4] [0] [4] [.agg xM.enc,.ro 16 ([l0,l1,l2].map us),sv xB,.sl 0 0 1] _ (.tup [aN [(4,8)],.i 0]) [.arr 2 ([((0:Int),(10:Int))].map enS)] [.dead] (hS++[.dead]) _ o (by simp) (by simp) (by simp [blk,bO,enS]) ⟨⟨dE.1,trivial,trivial,trivial,trivial⟩,dE.2,⟨rfl,rfl⟩,rfl,rfl,trivial⟩ (by simp [bN,bO,a7,hO,gK,kill]) rfl rfl trivial ?_
  simp -implicitDefEqProofs only [rX,↓rY,↓reduceIte,Nat.reduceEqDiff,aQ,kill,bE,St.kill]
  refine hN _ _ ?_ ?_ ?_ ?_ ?_ ?_ ?_ ?_
  ·exact k5
  ·exact k8
  ·exact k11
  ·exact k12
  ·exact k13
  ·exact k15
  ·rfl
  ·rfl
 ·refine aE o3 ⟨⟨trivial,trivial,trivial⟩,rfl,rfl,trivial⟩ rfl trivial ?_
  simp -implicitDefEqProofs only [rX,aA,↓reduceIte,Nat.reduceEqDiff]
  refine dN [4] [0] [4] [.agg xM.enc,.ro 16 ([l0,l1,l2].map us),sv xB,.sl 0 0 1] _ (.tup [aN [(4,8)],.i 0]) [.arr 2 ([((0:Int),(10:Int))].map enS)] [.dead] (hS++[.dead]) _ o (by simp) (by simp) (by simp [blk,bO,enS]) ⟨⟨dE.1,trivial,trivial,trivial,trivial⟩,dE.2,⟨rfl,rfl⟩,rfl,rfl,trivial⟩ (by simp [bN,bO,a7,hO,gK,kill]) rfl rfl trivial ?_
  simp -implicitDefEqProofs only [rX,↓rY,↓reduceIte,Nat.reduceEqDiff,aQ,kill,bE,St.kill]
  refine hN _ _ ?_ ?_ ?_ ?_ ?_ ?_ ?_ ?_
  ·exact k5
  ·exact k8
  ·exact k11
  ·exact k12
  ·exact k13
  ·exact k15
  ·rfl
  ·rfl
theorem Ua (g5:get e 5=.b true) (g8:get e 8=.b true) (g11:get e 11=.b true) (g12:get e 12=sv yB) (g13:get e 13=.i 0) (g15:get e 15=.i 8) (g16:get e 16=aN [(4,8)]) (g17:get e 17=.i 0) (hN:∀ e b h,get e 0=.b true→R ⟨e,h,b⟩):aw cE (rt 11 c13) N X R ⟨e,hS++[.dead],bb⟩:=by
 conv=>arg 2;whnf
 simp -implicitDefEqProofs only [rX,↓rY,aA,cells?,splice,↓reduceIte,Nat.reduceEqDiff,Nat.reduceAdd,aD,bV,cB,isD,Nat.reduceLT,Nat.reduceLeDiff,↓ji,cxN,dU,g5,g8,g11,g12,g13,g15,g16,g17,beq_self_eq_true,dU]
 rw [show (({ data:=#[97,98,99,100,88,101,102,103,104] }:ByteArray).toList)=yB from dU (l:=yB),beq_self_eq_true,kb]
 have o:=Sc [(4,8)] [(4,8)]
 rw [beq_self_eq_true] at o
 refine dN [5] [0] [5] [aN [(4,8)],.sl 0 0 1] _ (.b true) [.arr 2 ([((4:Int),(8:Int))].map enS)] [.dead] (hS++[.dead,.dead]) _ o (by simp) (by simp) (by simp [blk,bO,enS]) (by simp [aM,bK,aZ,dD,wkL,wk,wkR,pos]) (by simp [bN,bO,a7,hO,gK,kill]) rfl rfl trivial ?_
 simp -implicitDefEqProofs only [rX,↓rY,↓reduceIte,Nat.reduceEqDiff,aQ,kill,bE,St.kill]
 exact hN _ _ _ rfl
end
theorem Yn (A:A22):Ok 13 [] (Is (.b true)):=by
 refine bY lw13 (by simp) ?_
 rw [c13_parts]
 simp -implicitDefEqProofs only [qJ]
 conv=>arg 2;whnf
 simp -implicitDefEqProofs only [rX,aA,cxN,aL]
 refine Xh fun e b g1 g2=>?_
 simp -implicitDefEqProofs only [qJ]
 refine Xg g1 g2 fun e b g1 g2 g3 g4=>?_
 simp -implicitDefEqProofs only [qJ]
 refine Xf g1 g2 g3 g4 fun e b g1 g5=>?_
 simp -implicitDefEqProofs only [qJ]
 refine Xe g1 g5 fun e b g1 g5 g6 g7=>?_
 simp -implicitDefEqProofs only [qJ]
 refine Xd g1 g5 g6 g7 fun e b g1 g5 g8=>?_
 simp -implicitDefEqProofs only [qJ]
 refine Xc g1 g5 g8 fun e b g1 g5 g8 g9 g10=>?_
 simp -implicitDefEqProofs only [qJ]
 refine Xb g1 g5 g8 g9 g10 fun e b g1 g5 g8 g9 g11=>?_
 simp -implicitDefEqProofs only [qJ]
 refine Xa A g1 g5 g8 g9 g11 fun e b g1 g5 g8 g9 g11 g12 g13=>?_
 simp -implicitDefEqProofs only [qJ]
 refine Wz A g1 g5 g8 g9 g11 g12 g13 fun e b g1 g5 g8 g11 g12 g13 g15=>?_
 simp -implicitDefEqProofs only [qJ]
 refine Ub g1 g5 g8 g11 g12 g13 g15 fun e b g5 g8 g11 g12 g13 g15 g16 g17=>?_
 refine Ua g5 g8 g11 g12 g13 g15 g16 g17 fun e b h g0=>?_
 rw [kg]
 simp -implicitDefEqProofs only [rX,aV,a6,wfV,g0]
end Go.Fx.H
namespace Go.Fx.H
open Go Go.Fx Go.Proofs Go.RowKit
section
variable {ρ:Nat→Loc} {X:Nat→Prop} {w:World}
theorem nU:∀ {x y:List V} {vs:List Value},aX ρ X w (x++y) vs→∃ u v,vs=u++v∧aX ρ X w x u∧aX ρ X w y v
 | [],y,vs,h=>⟨[],vs,rfl,by simp only [aX],h⟩
 | x::r,y,[],h=>by simp only [yaK,aX] at h
 | x::r,y,v::vs,h=>by
  simp only [yaK,aX] at h
  obtain ⟨u,v',e,h1,h2⟩:=nU h.2
  exact ⟨v::u,v',by rw [e];rfl,by simp only [aX];exact ⟨h.1,h1⟩,h2⟩
theorem Bq {S:Nat→Prop} {b:Nat}:∀ {l:List Op} {off:Nat},b7 S w 3 b off (l.map enO)→∀ k (h:k<l.length),w.cell? ⟨b,off+k*3,none⟩=some (.int .i64 l[k].1)∧w.cell? ⟨b,off+k*3+1,none⟩=some (.int .i64 l[k].2.1)∧w.cell? ⟨b,off+k*3+2,none⟩=some (.string (sb l[k].2.2))
 | [],_,_,k,h=>absurd h (yaQ _)
 | x::r,off,hr,k,h=>by
  obtain ⟨⟨_,⟨v1,c1,d1⟩,⟨v2,c2,d2⟩,⟨v3,c3,d3⟩,_⟩,h3⟩:=hr
  cases k with
  | zero =>
   obtain rfl:v1=_:=d1.1
   obtain rfl:v2=_:=d2.1
   obtain rfl:v3=_:=d3.1
   rw [Nat.zero_mul,Nat.add_zero]
   exact ⟨c1,c2,c3⟩
  | succ k =>
   have:=Bq h3 k (by simpa using h)
   rw [show off+3+k*3=off+(k+1)*3 by omega] at this
   exact this
end
theorem a22:A22:=by
 intro old a b s l h1 ha hb hl hx
 refine ⟨cal Tryz.func22 (by kernel_rfl) (by kernel_rfl),?_⟩
 intro ρ X w vals hr hv
 match vals,hv with
 | [v1,v2],⟨e1,⟨arr,e0,h2⟩,_⟩ =>
 subst e0
 obtain rfl:v1=.string (sb old):=e1
 obtain ⟨u1,v',e1,r1,r2⟩:=nU h2
 obtain ⟨u2,v'',e9,r3,r4⟩:=nU r2
 subst e9
 match v'',r4 with
 | [i,sl],⟨e2,⟨pp,len,cap,e0,hlen,hc1,hc2,hels⟩,_⟩ =>
 subst e0
 obtain rfl:i=.int .i64 s:=e2
 have q1:=yE r1
 have q2:=yE r3
 subst q1 q2
 have hlen2:len=l.length:=by simpa using hlen
 subst hlen2
 have harr:arr=pcs a b s (.slice pp l.length cap):=by
  apply Array.ext'
  rw [e1];unfold pcs;rfl
 rw [harr]
 have hend:∀ {blk off},(l≠[]→pp=some ⟨blk,off,none⟩)→(∀ k (h:k<l.length),w.cell? ⟨blk,off+k*3,none⟩=some (.int .i64 l[k].1)∧w.cell? ⟨blk,off+k*3+1,none⟩=some (.int .i64 l[k].2.1)∧w.cell? ⟨blk,off+k*3+2,none⟩=some (.string (sb l[k].2.2))∧blk<w.heap.size)→_:=fun {blk off} hp hop =>
  Calls.mono (Rg hr old a b s l blk off pp cap (by omega) ha hb (by omega) (fun x h=>by have:=hx x h;omega) hp hop) (R':=fun e w'=>∃ val r h' ρ',e=.returned val∧(Is (.tup [sv (apR old a b s l),.i (apE old a b s l)]) r h'∧[].length≤h'.length)∧Fr ρ w ρ' w'∧Rep ρ' X w' h'∧aJ ρ' X w' r val∧∀ k,k<([]:List Blk).length→k∉([]:List Nat)→ρ' k=ρ k) (by
   rintro e w' ⟨rfl,hbw⟩
   exact ⟨_,_,[],ρ,rfl,⟨⟨rfl,rfl⟩,yab _⟩,xN hr hbw,t7 hr hbw,⟨_,rfl,rfl,rfl,trivial⟩,fun k hk=>absurd hk (yaQ _)⟩)
 rcases hels with hn|⟨blk,off,hp,hS,hcs⟩
 ·have hl0:l=[]:=by simpa using hn
  exact hend (blk:=0) (off:=0) (fun h=>absurd hl0 h) (fun k h=>by rw [hl0] at h;exact absurd h (yaQ _))
 ·exact hend (fun _=>hp) fun k h=>by
   obtain ⟨c1,c2,c3⟩:=Bq hcs k h
   exact ⟨c1,c2,c3,hS.1⟩
theorem adD:Ok 13 [] (Is (.b true)):=Yn a22
end Go.Fx.H
namespace Go.Fx.H
open Go Go.Fx Go.Proofs Go.Fx.R
def nZ (old:Bs) (o:List Op):Bs:=(o.map (eL old)).flatten
theorem jW {old:Bs} {o p:List Op}:nZ old (o++p)=nZ old o++nZ old p:=by simp [nZ]
theorem jV {old:Bs} {x:Op}:nZ old [x]=eL old x:=by simp [nZ]
theorem Of {old:Bs}:∀ {l:List Op} {o:Bs},(∀ x∈l,¬vI old x)→(o++nZ old l).length≤65536→apN old l o=some (o++nZ old l)
 | [],o,_,_=>by simp [apN,nZ]
 | x::r,o,h,hl=>by
  have e:nZ old (x::r)=eL old x++nZ old r:=by simp [nZ]
  rw [e,←yaf] at hl
  have hl2:=hl
  rw [yaa] at hl2
  unfold apN
  rw [if_neg (h x yaD),if_neg (by omega),Of (fun y hy=>h y (yaE _ hy)) hl,e,yaf]
theorem Jv (l:List Op) (n:Int):l.foldl (fun n x=>n+(x.2.2.length:Int)) n=n+wgt l:=by
 unfold wgt
 induction l generalizing n with
 | nil=>simp
 | cons x r ih=>simp only [List.foldl_cons];rw [ih,ih (0+_)];omega
theorem eS {l m:List Op}:wgt (l++m)=wgt l+wgt m:=by
 show List.foldl _ 0 (l++m)=_
 rw [List.foldl_append,Jv];rfl
theorem eR {x:Op}:wgt [x]=x.2.2.length:=by simp [wgt]
theorem n9 {o:List Op} {x:Op} (h:o.getLast?=some x):o=o.dropLast++[x]:=by
 obtain ⟨p,rfl⟩:=List.getLast?_eq_some_iff.1 h
 simp
structure DI (old new:Bs) (i:Nat) (o:List Op):Prop where
 ok:∀ x∈o,¬vI old x
 out:nZ old o=new.take i
 w:wgt o≤i∧0≤wgt o
theorem DI.zero {old new:Bs}:DI old new 0 []:=⟨by simp,by simp [nZ],by simp [wgt]⟩
theorem DI.lit {old new:Bs} {i:Nat} {o:List Op} (h:DI old new i o) (hi:i<new.length):DI old new (i+1) (Dg o (pc new 1 i)):=by
 obtain ⟨h1,h2,h3⟩:=h
 have hc:pc new 1 i=[new[i]]:=by
  unfold pc
  rw [yat hi];rfl
 have ht:new.take (i+1)=new.take i++[new[i]]:=by rw [yav,yah hi];rfl
 have new0:DI old new (i+1) (o++[(0,0,[new[i]])]):=by
  refine ⟨fun x hx=>?_,?_,?_⟩
  ·rcases yay.1 hx with hx|hx
   ·exact h1 x hx
   ·simp at hx;subst hx
    simp [vI]
  ·rw [jW,jV,h2,ht]
   simp [eL]
  ·rw [eS,eR]
   simp only [yap]
   omega
 rw [hc]
 unfold Dg
 cases hl:o.getLast? with
 | none=>exact new0
 | some x =>
  simp only
  by_cases hx:x.2.2≠[]
  ·rw [if_pos hx]
   have e:=n9 hl
   have hbx:¬vI old x:=h1 x (by rw [e];simp)
   have h0:x.1=0∧x.2.1=0:=by
    unfold vI at hbx
    by_cases a:x.1=0
    ·by_cases b:x.2.1=0
     ·exact ⟨a,b⟩
     ·exact absurd (.inr ⟨hx,.inr b⟩) hbx
    ·exact absurd (.inr ⟨hx,.inl a⟩) hbx
   rw [e,jW,jV] at h2
   rw [e,eS,eR] at h3
   refine ⟨fun y hy=>?_,?_,?_⟩
   ·rcases yay.1 hy with hy|hy
    ·exact h1 y (by rw [e];exact ybw _ hy)
    ·simp at hy;subst hy
     simp [vI,h0]
   ·rw [jW,jV,ht,←h2]
    simp [eL,hx]
   ·rw [eS,eR]
    simp only [yaa,yap]
    omega
  ·rw [if_neg hx];exact new0
theorem Cm {old q:Bs} {b f:Nat} (h:fnd old b q=some f):∃ i,i<nb old.length b∧f=i*b∧bk old b i=q∧q.length=b:=m7 h
theorem vT {l:Bs} {a m n:Nat} (h:a≤m) (h2:m≤n) (h3:n≤l.length):(l.take n).drop a=(l.take m).drop a++(l.take n).drop m:=by
 have e1:l.take n=l.take m++(l.take n).drop m:=by
  have:=yae m (l.take n)
  rw [List.take_take,Nat.min_eq_left h2] at this
  exact this.symm
 conv=>lhs;rw [e1]
 rw [yaB (by rw [yac];omega)]
theorem DI.blk {old new:Bs} {i b f:Nat} {o:List Op} (h:DI old new i o) (hb:1≤b) (hf:fnd old b (pc new b i)=some f):DI old new (i+b) (oK o f b)∧i+b≤new.length:=by
 obtain ⟨h1,h2,h3⟩:=h
 obtain ⟨j,hj,rfl,hq,hl⟩:=Cm hf
 have hpl:(pc new b i).length=min b (new.length-i):=by simp [pc]
 have hib:i+b≤new.length:=by omega
 have hob:=Hz (j:=j) (by rw [hq,hl]:(bk old b j).length=b) hb
 have ht:new.take (i+b)=new.take i++pc new b i:=by
  unfold pc
  rw [List.take_add]
 have ho:(old.take (j*b+b)).drop (j*b)=pc new b i:=by rw [←hq,←Oa,Nat.min_eq_right hob]
 refine ⟨?_,hib⟩
 have new0:DI old new (i+b) (o++[(((j*b:Nat):Int),((j*b:Nat):Int)+b,[])]):=by
  refine ⟨fun x hx=>?_,?_,?_⟩
  ·rcases yay.1 hx with hx|hx
   ·exact h1 x hx
   ·simp only [List.mem_singleton] at hx;subst hx
    rintro (⟨_,h⟩|⟨h,_⟩)
    ·simp only at h;omega
    ·exact h rfl
  ·rw [jW,jV,h2,ht,←ho]
   unfold eL
   rw [if_pos rfl]
   simp only
   congr 2
  ·rw [eS,eR]
   simp only [List.length_nil]
   omega
 unfold oK
 cases hla:o.getLast? with
 | none=>exact new0
 | some x =>
  simp only
  by_cases hx:x.2.2=[]∧x.2.1=((j*b:Nat):Int)
  ·rw [if_pos hx]
   have e:=n9 hla
   have hbx:¬vI old x:=h1 x (by rw [e];simp)
   have h0:0≤x.1∧x.1<x.2.1:=by
    have:¬(x.1<0∨x.1≥x.2.1∨x.2.1>old.length):=fun h=>hbx (.inl ⟨hx.1,h⟩)
    omega
   rw [e,jW,jV] at h2
   rw [e,eS,eR] at h3
   refine ⟨fun y hy=>?_,?_,?_⟩
   ·rcases yay.1 hy with hy|hy
    ·exact h1 y (by rw [e];exact ybw _ hy)
    ·simp only [List.mem_singleton] at hy;subst hy
     rintro (⟨_,h⟩|⟨h,_⟩)
     ·simp only at h;omega
     ·exact h hx.1
   ·rw [jW,jV,ht,←h2,yaf]
    congr 1
    unfold eL
    rw [if_pos hx.1,if_pos hx.1]
    simp only
    have e1:(((j*b:Nat):Int)+(b:Int)).toNat=j*b+b:=by omega
    have e2:x.2.1.toNat=j*b:=by rw [hx.2];exact yan _
    rw [e1,e2,←ho]
    exact vT (by omega) (by omega) hob
   ·rw [eS,eR]
    simp only
    omega
  ·rw [if_neg hx];exact new0
theorem DI.all {old new:Bs} {b:Nat} (hb:1≤b):∀ (n i:Nat) (o:List Op),n=new.length-i→i≤new.length→DI old new i o→DI old new new.length (gW old new b i o):=by
 intro n
 induction n using yaN with
 | ind n ih =>
  intro i o hn hi h
  rw [gW]
  split
  ·rename_i hlt
   cases hf:fnd old b (pc new b i) with
   | none=>exact ih (new.length-(i+1)) (by omega) (i+1) _ rfl (by omega) (h.lit hlt)
   | some f =>
    obtain ⟨h1,h2⟩:=h.blk hb hf
    have e:i+(b-1)+1=i+b:=by omega
    simp only [e]
    exact ih (new.length-(i+b)) (by omega) (i+b) _ rfl (by omega) h1
  ·have e:i=new.length:=by omega
   rw [e] at h;exact h
theorem Sl {old new:Bs} {b:Int} (hb:1≤b∧b≤4096) (h1:old.length≤65536) (h2:new.length≤65536):dfE old new b=0:=by
 unfold dfE
 rw [if_neg (by omega),if_neg (by have:=Nat.max_le.2 ⟨h1,h2⟩;omega)]
theorem Sk {old new:Bs} {b:Int} (hb:1≤b∧b≤4096) (h1:old.length≤65536) (h2:new.length≤65536):DI old new new.length (dfO old new b):=by
 unfold dfO
 rw [if_neg (by rw [Sl hb h1 h2];decide)]
 exact DI.all (by omega) _ 0 [] rfl (by omega) .zero
theorem Nm {old new:Bs} {b:Int} (hb:1≤b∧b≤4096) (h1:old.length≤65536) (h2:new.length≤65536):apN old (dfO old new b) []=some new:=by
 have h:=Sk hb h1 h2
 have e:nZ old (dfO old new b)=new:=by rw [h.out,yaR]
 rw [Of h.ok (by rw [yaG,e];exact h2),yaG,e]
theorem Ew {old new:Bs} {b:Int} (hb:1≤b∧b≤4096) (h1:old.length≤65536) (h2:new.length≤65536):apE old (dig old) (dig new) new.length (dfO old new b)=0:=by
 unfold apE
 rw [if_neg (by simp),Nm hb h1 h2]
 simp
theorem Vx {old new:Bs} {b:Int} (hb:1≤b∧b≤4096) (h1:old.length≤65536) (h2:new.length≤65536):apR old (dig old) (dig new) new.length (dfO old new b)=new:=by
 unfold apR
 rw [if_neg (by rw [Ew hb h1 h2];decide),Nm hb h1 h2];rfl
theorem aaA {old new:Bs} {b:Int} (hb:1≤b∧b≤4096) (h1:old.length≤65536) (h2:new.length≤65536):0≤wgt (dfO old new b)∧wgt (dfO old new b)≤new.length:=by
 have:=(Sk hb h1 h2).w;omega
theorem Vw {old new:Bs} {b:Nat} (hb:1≤b):∀ (n i:Nat) (o:List Op),n=new.length-i→i≤new.length→o.length≤i→(gW old new b i o).length≤new.length:=by
 intro n
 induction n using yaN with
 | ind n ih =>
  intro i o hn hi h
  rw [gW]
  split
  ·rename_i hlt
   cases hf:fnd old b (pc new b i) with
   | none =>
    refine ih (new.length-(i+1)) (by omega) (i+1) _ rfl (by omega) ?_
    unfold Dg
    split
    ·rename_i x hx
     split
     ·rw [yaa,yba];simp only [yap];omega
     ·rw [yaa];simp only [yap];omega
    ·rw [yaa];simp only [yap];omega
   | some f =>
    obtain ⟨j,hj,rfl,hq,hl⟩:=Cm hf
    have hpl:(pc new b i).length=min b (new.length-i):=by simp [pc]
    have e:i+(b-1)+1=i+b:=by omega
    simp only [e]
    refine ih (new.length-(i+b)) (by omega) (i+b) _ rfl (by omega) ?_
    unfold oK
    split
    ·rename_i x hx
     split
     ·rw [yaa,yba];simp only [yap];omega
     ·rw [yaa];simp only [yap];omega
    ·rw [yaa];simp only [yap];omega
  ·omega
theorem Hv {old new:Bs} {b:Int}:(dfO old new b).length≤new.length:=by
 unfold dfO
 split
 ·simp
 ·rename_i h
  refine Vw ?_ _ 0 [] rfl (by omega) (by simp)
  unfold dfE at h
  split at h<;>omega
theorem Pg {l:List Op}:∀ x∈l,(x.2.2.length:Int)≤wgt l:=by
 induction l with
 | nil=>simp
 | cons y r ih =>
  intro x hx
  have e:wgt (y::r)=y.2.2.length+wgt r:=by rw [show y::r=[y]++r from rfl,eS,eR]
  have h0:0≤wgt r:=by
   clear ih hx e
   induction r with
   | nil=>simp [wgt]
   | cons z t ih2 =>
    rw [show z::t=[z]++t from rfl,eS,eR];omega
  rcases yaA.1 hx with rfl|hx
  ·omega
  ·have:=ih x hx;omega
theorem Hu {old new:Bs} {b:Int} (hb:1≤b∧b≤4096) (h1:old.length≤65536) (h2:new.length≤65536):∀ x∈dfO old new b,x.2.2.length≤new.length:=by
 intro x hx
 have:=Pg x hx
 have:=aaA hb h1 h2
 omega
theorem Ku {old:Bs} {b:Nat} (hb:1≤b) (hd:b ∣ old.length):∀ (n i:Nat) (o:List Op),n=old.length-i→i≤old.length→b ∣ i→wgt o=0→wgt (gW old old b i o)=0:=by
 intro n
 induction n using yaN with
 | ind n ih =>
  intro i o hn hi hdi h
  rw [gW]
  split
  ·rename_i hlt
   obtain ⟨k,rfl⟩:=hdi
   obtain ⟨L,hL⟩:=hd
   have hkL:k<L:=by
    rw [hL] at hlt
    exact Nat.lt_of_mul_lt_mul_left hlt
   have hle:b*k+b≤old.length:=by
    rw [hL,←Nat.mul_succ];exact Nat.mul_le_mul_left b hkL
   have hpk:bk old b k=pc old b (b*k):=by unfold bk pc;rw [Nat.mul_comm]
   have hpl:(pc old b (b*k)).length=b:=by simp [pc];omega
   cases hf:fnd old b (pc old b (b*k)) with
   | none=>exact absurd ⟨hpk,hpl⟩ (xO hf k ((uJ hb).1 (by rw [Nat.mul_comm];exact hlt)))
   | some f =>
    have e:b*k+(b-1)+1=b*k+b:=by omega
    simp only [e]
    refine ih (old.length-(b*k+b)) (by omega) (b*k+b) _ rfl (by omega) ⟨k+1,by rw [Nat.mul_succ]⟩ ?_
    unfold oK
    split
    ·rename_i x hx
     split
     ·have e2:=n9 hx
      rw [e2,eS,eR] at h
      rw [eS,eR];exact h
     ·rw [eS,eR,h];rfl
    ·rw [eS,eR,h];rfl
  ·exact h
theorem Tu {old:Bs} {b:Int} (hb:1≤b) (hd:(old.length:Int)%b=0):wgt (dfO old old b)=0:=by
 unfold dfO
 split
 ·rfl
 ·refine Ku (by omega) ?_ _ 0 [] rfl (by omega) ⟨0,by simp⟩ rfl
  have:b=((b.toNat:Nat):Int):=by omega
  rw [this] at hd
  exact Int.ofNat_dvd.1 (Int.dvd_of_emod_eq_zero hd)
end Go.Fx.H
namespace Go.Fx.H
open Go Go.Fx Go.Proofs Go.Fx.R
set_option maxRecDepth 20000
section
end
end Go.Fx.H
