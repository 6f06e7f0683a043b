import Derived.Test.YtjijbjnelflcfaaGreatT32
import Derived.Test.YtjijbjnelflcfaaGreatT12
import Derived.Test.YtjijbjnelflcfaaGreatJLow
import Derived.Test.YtjijbjnelflcfaaGreatJCode
set_option linter.unusedVariables false
set_option linter.unusedSimpArgs false
set_option linter.unusedSectionVars false
open Bool renaming true_and → yA, true_or → vA, false_and → vI, not_true → vJ, not_false → vK, or_false → vL, false_eq_true → vM, and_self → vO, or_true → vP, or_self → vQ, false_or → vW, or_assoc → uY
open List renaming take_succ_cons → yB, drop_succ_cons → yC, take_of_length_le → yD, take → yE, map_cons → yF, length_append → yG, map_nil → yH, map_append → yI, append_nil → yJ, getElem_mem → yK, map → yL, getElem?_cons_succ → yM, getElem_of_mem → yO, mem_map → yQ, mem_append → yS, drop → yU, nodup_append → yW, length_map → yX, take_length → yY, length_take_of_le → yZ, take_succ_eq_append_getElem → vB, map_set → vC, append_assoc → vD, nil_append → vE, replicate_succ → vF, getD_cons_succ → vG, getD_cons_zero → vH, map_take → vN, replicate → vR, all_eq_true → vS, map_drop → vT, any_eq_true → vU, mem_filter → vV, filter_append → vX, getElem_drop → vY, getElem_take → uB, take_append_drop → uC, find?_eq_some_iff_getElem → uD, find?_eq_none → uF, getD_eq_getElem?_getD → uH, getElem?_eq_getElem → uI, findIdx_lt_length → uJ, length_take → uK, mem_cons_self → uM, mem_cons_of_mem → uN, cons_append → uO, any_cons → uP, drop_eq_getElem_cons → uQ, pairwise_iff_getElem → uU, length_drop → uV, mem_map_of_mem → uW, any_append → uX, length_filter_le → uZ, getElem?_append_right → xA, filterMap_append → xB, length_filterMap_le → xC, filter_sublist → xD, getElem_cons_succ → xE
open Nat renaming lt_or_ge → yN, le_trans → yP, zero_le → yV, le_refl → vZ, sub_self → uA, sub_zero → uS
open Int renaming natCast_zero → yT, toNat → uL, toNat_zero → uR
open Option renaming toList_some → uE, toList_none → uG
open List.Pairwise renaming imp_of_mem → uT
namespace Go.Fx.J
open Go Go.Fx Go.Proofs Go.Fx.R
set_option maxRecDepth 20000
def hC (c : Blk) (o : List Int) : List Blk := [c, .var [.sl 2 0 o.length], .arr 1 (o.map encI)]
def addO (b : Bool) (id : Int) (o : List Int) : List Int := if b = true then o ++ [id] else o
def goF (need : List Sp) (f : Fet) : Bool := !common need f.sp
def goW (sp : Sp) (w : Wai) : Bool := common w.need sp
def hD (c : Blk) (o : List Int) (sz : Nat) (els : List (List V)) : List Blk := [c, .var [.sl 2 0 o.length], .arr 1 (o.map encI), .arr sz els]
def keptD {α : Type} (p : α → Bool) (l : List α) : List α := l.filter fun x => !p x
def outsD {α : Type} (p : α → Bool) (id : α → Int) (l : List α) : List Int := (l.filter p).map id
theorem keptD_len {α : Type} {p : α → Bool} {l : List α} : (keptD p l).length ≤ l.length := uZ _ _
theorem outsD_len {α : Type} {p : α → Bool} {id : α → Int} {l : List α} : (outsD p id l).length ≤ l.length := by unfold outsD; rw [yX]; exact uZ _ _
theorem del_step {α : Type} {p : α → Bool} {id : α → Int} {l : List α} {j : Nat} (h : j < l.length) : keptD p (l.take (j + 1)) = keptD p (l.take j) ++ (if p l[j] = true then [] else [l[j]]) ∧ outsD p id (l.take (j + 1)) = outsD p id (l.take j) ++ (if p l[j] = true then [id l[j]] else []) := by
 unfold keptD outsD
 rw [vB h, vX, vX, yI]
 cases h : p l[j] <;> simp [h]
theorem del_none {α : Type} {p : α → Bool} {id : α → Int} {l : List α} (h : ∀ j (hj : j < l.length), p l[j] = false) : keptD p l = l ∧ outsD p id l = [] := by
 have h' : ∀ x ∈ l, p x = false := fun x hx => by
  obtain ⟨j, hj, rfl⟩ := yO hx
  exact h j hj
 refine ⟨List.filter_eq_self.2 fun x hx => by rw [h' x hx]; rfl, ?_⟩
 unfold outsD
 rw [List.filter_eq_nil_iff.2 fun x hx => by rw [h' x hx]; simp]
 rfl
def rowsD {α : Type} (p : α → Bool) (l : List α) (j : Nat) : List α := keptD p (l.take j) ++ l.drop (keptD p (l.take j)).length
theorem keptD_take {α : Type} {p : α → Bool} {l : List α} {j : Nat} : (keptD p (l.take j)).length ≤ j := yP keptD_len (by simp; omega)
theorem rowsD_len {α : Type} {p : α → Bool} {l : List α} {j : Nat} (hj : j ≤ l.length) : (rowsD p l j).length = l.length := by
 have := keptD_take (p := p) (l := l) (j := j)
 unfold rowsD
 simp
 omega
theorem rowsD_at {α : Type} {p : α → Bool} {l : List α} {j : Nat} (hj : j < l.length) : (rowsD p l j)[j]'(by rw [rowsD_len (by omega)]; exact hj) = l[j] := by
 have := keptD_take (p := p) (l := l) (j := j)
 unfold rowsD
 rw [List.getElem_append_right this, vY]
 congr 1
 omega
theorem rowsD_yes {α : Type} {p : α → Bool} {l : List α} {j : Nat} (hj : j < l.length) (h : p l[j] = true) : rowsD p l (j + 1) = rowsD p l j := by
 unfold rowsD
 rw [(del_step (id := fun _ => 0) hj).1, if_pos h, yJ]
theorem rowsD_no {α : Type} {p : α → Bool} {l : List α} {j : Nat} (hj : j < l.length) (h : p l[j] = false) : rowsD p l (j + 1) = (rowsD p l j).set (keptD p (l.take j)).length l[j] := by
 have := keptD_take (p := p) (l := l) (j := j)
 have hd := uQ (l := l) (i := (keptD p (l.take j)).length) (by omega)
 unfold rowsD
 rw [(del_step (id := fun _ => 0) hj).1, h, if_neg (by simp), yG, List.set_append_right _ _ (vZ _), uA, hd, List.set_cons_zero, vD]
 rfl
theorem rowsD_end {α : Type} {p : α → Bool} {l : List α} {g : α → List V} : ((rowsD p l l.length).map g).take (keptD p l).length = (keptD p l).map g ∧ ((rowsD p l l.length).map g).drop ((keptD p l).length + (l.length - (keptD p l).length)) = [] := by
 have := rowsD_len (p := p) (l := l) (vZ _)
 have hk := keptD_len (p := p) (l := l)
 refine ⟨?_, List.drop_eq_nil_of_le (by rw [yX]; omega)⟩
 unfold rowsD
 rw [yY, ← vN, List.take_left]
theorem rowsD_start {α : Type} {p : α → Bool} {l : List α} {k : Nat} (hk : k < l.length) (h : p l[k] = true) (hno : ∀ j (hj : j < l.length), j < k → p l[j] = false) (id : α → Int) : keptD p (l.take (k + 1)) = l.take k ∧ rowsD p l (k + 1) = l ∧ outsD p id (l.take (k + 1)) = [id l[k]] := by
 have hn := del_none (p := p) (id := id) (l := l.take k) fun j hj => by
  rw [uB]
  exact hno j (by simp at hj; omega) (by simp at hj; omega)
 have hs := del_step (p := p) (id := id) hk
 rw [if_pos h, if_pos h, hn.1, hn.2, yJ, vE] at hs
 refine ⟨hs.1, ?_, hs.2⟩
 unfold rowsD
 rw [hs.1, yZ (by omega), uC]
theorem ok90 (x : Fet) (need : List Sp) (o : List Int) (ho : o.length ≤ 8796093022208) (hn : Vd need) (hx : Vd [x.sp]) :
  OkN Tryz.prog 90 [.agg x.enc, .ptr 0 0 0, .ptr 1 0 0] (hC (.var [spans need]) o) [2] (IsA (.b (goF need x)) (hC (.var [spans need]) (addO (goF need x) x.id o))) := by
 refine okN_of pol [0, 1] lw90 (by simp) ⟨trivial, trivial, trivial⟩ (by simp [hC]; omega) ?_
 unfold c90 hC goF
 simp -implicitDefEqProofs only [rX,↓rY,ofConst,cells?,↓reduceIte,Nat.reduceEqDiff,Nat.reduceAdd,reduceCtorEq,freshP,cxN,yC,yB,yA,args0,Fet.enc]
 refine call_is (ok64 need x.sp hn hx) (by simp [lendsOk, lendOk, lends, lend, wkL, wk, wkR, enS]) rfl ⟨trivial, trivial, trivial⟩ ?_
 cases h : common need x.sp with
 | true =>
  simp -implicitDefEqProofs only [rX,↓rY,ofConst,↓reduceIte,Nat.reduceAdd,resP,tupV,leH,leB,leV,leVs,keepP,liveP,wfB,wfV,wfL,retP_isA,addO]
 | false =>
  simp -implicitDefEqProofs only [rX,↓rY,ofConst,cells?,splice,↓reduceIte,Nat.reduceEqDiff,Nat.reduceAdd,reduceCtorEq,freshP,litsP,resP,tupV,leH,leB,leV,leVs,keepP,liveP,wfB,wfV,wfL,killE,killB,kill,kills,St.kill,isD,isC,Nat.reduceLT,yC,yB,yA,retP_isA,addO]
  exact ⟨by omega, by rw [yD (by simp), yI]; rfl⟩
theorem ok92c (l : List Fet) (need : List Sp) (o : List Int) (ho : o.length + 1 ≤ 8796093022208) (hn : Vd need) (hx : ∀ x ∈ l, Vd [x.sp]) :
  OkN Tryz.prog 92 [.bro 3 (l.map Fet.enc), .clo 90 [.ptr 0 0 0, .ptr 1 0 0]] (hC (.var [spans need]) o) [2] (IsA (.i (fstI (goF need) l)) (hC (.var [spans need]) (o ++ ((l.find? (goF need)).map Fet.id).toList))) := by
 refine okN_of pol [0, 1] lw92 (by simp) ⟨trivial, trivial, trivial⟩ (by simp [hC]; omega) ?_
 unfold c92 hC
 simp -implicitDefEqProofs only [rX,↓rY,ofConst,↓reduceIte,Nat.reduceAdd,reduceCtorEq,cxN,args0]
 intro hm
 refine loopP_intro (fun k : Nat => ⟨[(8, .i k), (7, .i l.length), (1, .clo 90 [.ptr 0 0 0, .ptr 1 0 0]), (0, .bro 3 (l.map Fet.enc))], hC (.var [spans need]) o, 3⟩) (fun k => k ≤ l.length ∧ ∀ j (h : j < l.length), j < k → (goF need) l[j] = false) (fun k => l.length - k) 0 ⟨by omega, fun _ _ h => by omega⟩ ?_ ?_
 ·unfold hC
  simp -implicitDefEqProofs only [rX,↓reduceIte,Nat.reduceEqDiff,reduceCtorEq,leE,leH,leB,leV,leVs,keepP,liveP,wfE,wfB,wfV,wfL,yT]
 rintro k ⟨hk, hno⟩
 unfold c92l0 hC
 rcases yN k l.length with hk' | hk'
 ·have hd : decide ((k : Int) < (l.length : Int)) = true := decide_eq_true (by omega)
  have hkk : (0 : Int) ≤ k ∧ (k : Int) < l.length := ⟨by omega, by omega⟩
  simp -implicitDefEqProofs only [rX,↓rY,↓reduceIte,Nat.reduceEqDiff,Nat.reduceAdd,reduceCtorEq,ft_len,ft_t,yA,hd]
  refine ⟨hkk, hk', ?_⟩
  refine call_isMA [0, 1, 2] [2] [2] [.agg l[k].enc, .ptr 0 0 0, .ptr 1 0 0] (.b ((goF need) l[k])) (.b ((goF need) l[k])) (hC (.var [spans need]) o) (hC (.var [spans need]) (addO ((goF need) l[k]) l[k].id o)) (hC (.var [spans need]) (addO ((goF need) l[k]) l[k].id o)) _ (ok90 l[k] need o (by omega) hn (hx _ (yK hk'))) (by simp) (by simp) rfl (by simp [lendsOk, lendOk, lends, lend, wkL, wk, wkR, pos, Fet.enc]) rfl rfl rfl ⟨trivial, trivial, trivial⟩ ?_
  cases h : (goF need) l[k] with
  | true =>
   have hf := fst_yes hk' h hno
   have hf2 : l.find? (goF need) = some l[k] := uD.2 ⟨h, k, hk', rfl, fun j hj => by rw [hno j (by omega) hj]; rfl⟩
   unfold hC
   simp -implicitDefEqProofs only [rX,↓rY,↓reduceIte,Nat.reduceEqDiff,Nat.reduceAdd,reduceCtorEq,resP,tupV,leH,leB,leV,leVs,keepP,liveP,wfB,wfV,wfL,killE,kill,kills,St.kill,ft_k,retP_isA,hf,hf2,addO,uE]
  | false =>
   unfold hC
   simp -implicitDefEqProofs only [rX,↓rY,ofConst,↓reduceIte,Nat.reduceEqDiff,Nat.reduceAdd,reduceCtorEq,leE,leH,leB,leV,leVs,keepP,liveP,wfE,wfB,wfV,wfL,killE,kill,kills,St.kill,ft_k,yA,addO]
   exact ⟨by simp only [lo, hi, maxLen] at *; omega, k + 1, ⟨⟨by omega, fun j hj hlt => by
    by_cases e : j = k
    ·subst e; exact h
    ·exact hno j hj (by omega)⟩, by omega⟩, by simp⟩
 ·have hd : decide ((k : Int) < (l.length : Int)) = false := decide_eq_false (by omega)
  have hf := fst_no (p := goF need) (l := l) fun j hj => hno j hj (by omega)
  have hf2 : l.find? (goF need) = none := uF.2 fun x hx => by
   obtain ⟨j, hj, rfl⟩ := yO hx
   rw [hno j hj (by omega)]; simp
  simp -implicitDefEqProofs only [rX,↓rY,ofConst,↓reduceIte,Nat.reduceEqDiff,Nat.reduceAdd,resP,tupV,leH,leB,leV,leVs,keepP,liveP,wfB,wfV,wfL,hd,retP_isA,hf,hf2,uG]
theorem raw89 (l : List Fet) (need : List Sp) (o : List Int) (hl : l.length ≤ 2199023255552) (ho : o.length + l.length ≤ 4398046511104) (hn : Vd need) (hx : ∀ x ∈ l, Vd [x.sp]) :
  OkN Tryz.prog 89 [.sl 3 0 l.length, .clo 90 [.ptr 0 0 0, .ptr 1 0 0]] (hD (.var [spans need]) o 3 (l.map Fet.enc)) [2] (IsA (.sl 3 0 (keptD (goF need) l).length) (hD (.var [spans need]) (o ++ outsD (goF need) Fet.id l) 3 ((keptD (goF need) l).map Fet.enc ++ vR (l.length - (keptD (goF need) l).length) [.i 0, .i 0, .i 0]))) := by
 refine okN_of pol [0, 1, 3] lw89 (by simp) ⟨trivial, trivial, trivial, trivial⟩ (by simp [hD]; omega) ?_
 unfold c89 hD
 have htl : yE l.length (yL Fet.enc l) = yL Fet.enc l := yD (by simp)
 simp -implicitDefEqProofs only [rX,ofConst,↓reduceIte,Nat.reduceEqDiff,Nat.reduceAdd,reduceCtorEq,cxN,args0]
 refine call_isMA [0, 1, 2] [2] [2] [.bro 3 (l.map Fet.enc), .clo 90 [.ptr 0 0 0, .ptr 1 0 0]] (.i (fstI (goF need) l)) (.i (fstI (goF need) l)) (hC (.var [spans need]) o) (hC (.var [spans need]) (o ++ ((l.find? (goF need)).map Fet.id).toList)) (hD (.var [spans need]) (o ++ ((l.find? (goF need)).map Fet.id).toList) 3 (l.map Fet.enc)) _ (ok92c l need o (by omega) hn hx) (by simp) (by simp) rfl (by simp [lendsOk, lendOk, lends, lend, wkL, wk, wkR, wkB, pos, blk, htl]) rfl rfl rfl ⟨trivial, trivial, trivial, trivial⟩ ?_
 by_cases hany : ∃ k, ∃ hk : k < l.length, (goF need) l[k] = true ∧ ∀ j (hj : j < l.length), j < k → (goF need) l[j] = false
 ·obtain ⟨k, hk, hp, hno⟩ := hany
  have hf := fst_yes hk hp hno
  have hf2 : l.find? (goF need) = some l[k] := uD.2 ⟨hp, k, hk, rfl, fun j hj => by rw [hno j (by omega) hj]; rfl⟩
  obtain ⟨s1, s2, s3⟩ := rowsD_start hk hp hno Fet.id
  have hne : (((k : Int)) == -1) = false := by simp
  unfold hD
  simp -implicitDefEqProofs only [rX,↓rY,ofConst,↓reduceIte,Nat.reduceEqDiff,Nat.reduceAdd,reduceCtorEq,killE,kill,kills,St.kill,yA,hf,hf2,hne,uE]
  refine ⟨by simp only [lo, hi]; omega, ?_⟩
  refine loopP_intro (fun j : Nat => ⟨[(6, .i j), (5, .i (keptD (goF need) (l.take j)).length), (0, .sl 3 0 l.length), (1, .clo 90 [.ptr 0 0 0, .ptr 1 0 0])], hD (.var [spans need]) (o ++ outsD (goF need) Fet.id (l.take j)) 3 ((rowsD (goF need) l j).map Fet.enc), 4⟩) (fun j => j ≤ l.length) (fun j => l.length - j) (k + 1) (by omega) ?_ ?_
  ·unfold hD
   simp -implicitDefEqProofs only [rX,↓reduceIte,Nat.reduceEqDiff,reduceCtorEq,leE,leH,leB,leV,leVs,keepP,liveP,wfE,wfB,wfV,wfL,yA,s1,s2,s3,yZ (Nat.le_of_lt hk)]
   omega
  rintro j hj
  unfold c89l0 hD
  have hkt := keptD_take (p := goF need) (l := l) (j := j)
  have hrl := rowsD_len (p := goF need) hj
  rcases yN j l.length with hj' | hj'
  ·have hd : decide ((j : Int) < (l.length : Int)) = true := decide_eq_true (by omega)
   have hjj : (0 : Int) ≤ j ∧ (j : Int) < l.length := ⟨by omega, by omega⟩
   obtain ⟨t1, t2⟩ := del_step (p := goF need) (id := Fet.id) hj'
   have hol := outsD_len (p := goF need) (id := Fet.id) (l := l.take j)
   rw [yZ hj] at hol
   simp -implicitDefEqProofs only [rX,↓rY,ofConst,cells?,splice,↓reduceIte,Nat.reduceEqDiff,arrSz,Nat.reduceAdd,reduceCtorEq,freshP,ft_len,ft_t,ft_C,yC,yA,hd]
   intro hm
   refine ⟨hjj, by rw [hrl]; exact hj', ?_⟩
   rw [rowsD_at hj']
   refine call_isMA [0, 1, 2] [2] [2] [.agg l[j].enc, .ptr 0 0 0, .ptr 1 0 0] (.b ((goF need) l[j])) (.b ((goF need) l[j])) (hC (.var [spans need]) (o ++ outsD (goF need) Fet.id (l.take j))) (hC (.var [spans need]) (addO ((goF need) l[j]) l[j].id (o ++ outsD (goF need) Fet.id (l.take j)))) (hD (.var [spans need]) (addO ((goF need) l[j]) l[j].id (o ++ outsD (goF need) Fet.id (l.take j))) 3 ((rowsD (goF need) l j).map Fet.enc) ++ [.var l[j].enc]) _ (ok90 l[j] need (o ++ outsD (goF need) Fet.id (l.take j)) (by rw [yG]; omega) hn (hx _ (yK hj'))) (by simp) (by simp) (by simp [hC, blk, renB, rens, ren, pos, enS]) (by simp [lendsOk, lendOk, lends, lend, wkL, wk, wkR, pos, Fet.enc]) (by simp [hC, hD, setAll, renB, rens, ren, back, pos, killB, kills, kill, Fet.enc]) rfl rfl (by simp [hD, keepP, liveP]) ?_
   cases h : (goF need) l[j] with
   | true =>
    rw [if_pos h, yJ] at t1
    rw [if_pos h] at t2
    have hy := rowsD_yes hj' h
    unfold hD
    simp -implicitDefEqProofs only [rX,↓rY,ofConst,↓reduceIte,Nat.reduceEqDiff,Nat.reduceAdd,reduceCtorEq,leE,leH,leB,leV,leVs,keepP,liveP,wfE,wfB,wfV,wfL,killE,kill,kills,St.kill,ft_k,yA,addO]
    exact ⟨by simp only [lo, hi]; omega, j + 1, ⟨hj', by omega⟩, ⟨by omega, by rw [t1]⟩, by rw [t2, yG]; rfl, by rw [t2, vD], by rw [hy]⟩
   | false =>
    rw [h, if_neg (by simp)] at t1
    rw [h, if_neg (by simp), yJ] at t2
    have hy := rowsD_no hj' h
    unfold hD
    simp -implicitDefEqProofs only [rX,↓rY,ofConst,cells?,splice,↓reduceIte,Nat.reduceEqDiff,arrSz,Nat.reduceAdd,reduceCtorEq,leE,leH,leB,leV,leVs,keepP,liveP,wfE,wfB,wfV,wfL,killE,kill,kills,St.kill,ft_len,ft_t,ft_C,ft_D,ft_k,yA,addO]
    exact ⟨⟨by omega, by omega⟩, by rw [hrl]; omega, by simp only [lo, hi]; omega, by simp only [lo, hi]; omega, j + 1, ⟨hj', by omega⟩, ⟨by omega, by rw [t1, yG]; rfl⟩, by rw [t2], by rw [t2], by rw [hy, vC, show yU 3 ((rowsD (goF need) l j)[(keptD (goF need) (l.take j)).length]'(by rw [hrl]; omega)).enc = [] from rfl, yJ]⟩
  ·have hd : decide ((j : Int) < (l.length : Int)) = false := decide_eq_false (by omega)
   have hje : j = l.length := by omega
   subst hje
   obtain ⟨n1, n2⟩ := rowsD_end (p := goF need) (l := l)
   simp -implicitDefEqProofs only [rX,↓rY,↓reduceIte,Nat.reduceEqDiff,arrSz,Nat.reduceAdd,reduceCtorEq,slcOk,yA,hd]
   intro hm
   rw [yY] at hkt ⊢
   refine ⟨⟨⟨by omega, by omega⟩, by omega⟩, by rw [hrl]; omega, ⟨⟨by omega, by omega⟩, by omega, by omega⟩, ?_⟩
   rw [retP_isA, n1, n2]
   simp -implicitDefEqProofs only [rX,↓reduceIte,Nat.reduceAdd,resP,tupV,leH,leB,leV,leVs,keepP,liveP,wfB,wfV,wfL,uR,uS]
 ·have hno : ∀ j (hj : j < l.length), (goF need) l[j] = false := by
   intro j
   induction j using Nat.strongRecOn with
   | ind j ih =>
    intro hj
    cases h : (goF need) l[j] with
    | false => rfl
    | true => exact absurd ⟨j, hj, h, fun i hi hlt => ih i hlt hi⟩ hany
  have hf := fst_no (p := goF need) (l := l) hno
  have hf2 : l.find? (goF need) = none := uF.2 fun x hx => by
   obtain ⟨j, hj, rfl⟩ := yO hx
   rw [hno j hj]; simp
  obtain ⟨e1, e2⟩ := del_none (id := Fet.id) hno
  have hme : ((-1 : Int) == -1) = true := rfl
  unfold hD
  simp -implicitDefEqProofs only [rX,↓rY,ofConst,↓reduceIte,Nat.reduceEqDiff,Nat.reduceAdd,reduceCtorEq,resP,tupV,leH,leB,leV,leVs,keepP,liveP,wfB,wfV,wfL,killE,kill,kills,St.kill,yA,hf,hf2,hme,uG,retP_isA,e1,e2,uA]
theorem ok63 (x : Wai) (sp : Sp) (o : List Int) (ho : o.length ≤ 8796093022208) (hn : Vd [sp]) (hx : Vd x.need) :
  OkN Tryz.prog 63 [.agg x.enc, .ptr 0 0 0, .ptr 1 0 0] (hC (.var [.i sp.1, .i sp.2]) o) [2] (IsA (.b (goW sp x)) (hC (.var [.i sp.1, .i sp.2]) (addO (goW sp x) x.id o))) := by
 refine okN_of pol [0, 1] lw63 (by simp) ⟨trivial, trivial, trivial⟩ (by simp [hC]; omega) ?_
 unfold c63 hC goW
 simp -implicitDefEqProofs only [rX,↓rY,ofConst,cells?,↓reduceIte,Nat.reduceEqDiff,Nat.reduceAdd,reduceCtorEq,freshP,cxN,yB,yA,args0,Wai.enc]
 refine call_is (ok64 x.need sp hx hn) (by simp [lendsOk, lendOk, lends, lend, wkL, wk, wkR, enS]) rfl ⟨trivial, trivial, trivial⟩ ?_
 cases h : common x.need sp with
 | false =>
  simp -implicitDefEqProofs only [rX,↓rY,ofConst,↓reduceIte,Nat.reduceAdd,resP,tupV,leH,leB,leV,leVs,keepP,liveP,wfB,wfV,wfL,retP_isA,addO]
 | true =>
  simp -implicitDefEqProofs only [rX,↓rY,ofConst,cells?,splice,↓reduceIte,Nat.reduceEqDiff,Nat.reduceAdd,reduceCtorEq,freshP,litsP,resP,tupV,leH,leB,leV,leVs,keepP,liveP,wfB,wfV,wfL,killE,killB,kill,kills,St.kill,isD,isC,Nat.reduceLT,yC,yB,yA,retP_isA,addO]
  exact ⟨by omega, by rw [yD (by simp), yI]; rfl⟩
theorem ok95c (l : List Wai) (sp : Sp) (o : List Int) (ho : o.length + 1 ≤ 8796093022208) (hn : Vd [sp]) (hx : ∀ x ∈ l, Vd x.need) :
  OkN Tryz.prog 95 [.bro 2 (l.map Wai.enc), .clo 63 [.ptr 0 0 0, .ptr 1 0 0]] (hC (.var [.i sp.1, .i sp.2]) o) [2] (IsA (.i (fstI (goW sp) l)) (hC (.var [.i sp.1, .i sp.2]) (o ++ ((l.find? (goW sp)).map Wai.id).toList))) := by
 refine okN_of pol [0, 1] lw95 (by simp) ⟨trivial, trivial, trivial⟩ (by simp [hC]; omega) ?_
 unfold c95 hC
 simp -implicitDefEqProofs only [rX,↓rY,ofConst,↓reduceIte,Nat.reduceAdd,reduceCtorEq,cxN,args0]
 intro hm
 refine loopP_intro (fun k : Nat => ⟨[(8, .i k), (7, .i l.length), (1, .clo 63 [.ptr 0 0 0, .ptr 1 0 0]), (0, .bro 2 (l.map Wai.enc))], hC (.var [.i sp.1, .i sp.2]) o, 3⟩) (fun k => k ≤ l.length ∧ ∀ j (h : j < l.length), j < k → (goW sp) l[j] = false) (fun k => l.length - k) 0 ⟨by omega, fun _ _ h => by omega⟩ ?_ ?_
 ·unfold hC
  simp -implicitDefEqProofs only [rX,↓reduceIte,Nat.reduceEqDiff,reduceCtorEq,leE,leH,leB,leV,leVs,keepP,liveP,wfE,wfB,wfV,wfL,yT]
 rintro k ⟨hk, hno⟩
 unfold c95l0 hC
 rcases yN k l.length with hk' | hk'
 ·have hd : decide ((k : Int) < (l.length : Int)) = true := decide_eq_true (by omega)
  have hkk : (0 : Int) ≤ k ∧ (k : Int) < l.length := ⟨by omega, by omega⟩
  simp -implicitDefEqProofs only [rX,↓rY,↓reduceIte,Nat.reduceEqDiff,Nat.reduceAdd,reduceCtorEq,wt_len,wt_t,yA,hd]
  refine ⟨hkk, hk', ?_⟩
  refine call_isMA [0, 1, 2] [2] [2] [.agg l[k].enc, .ptr 0 0 0, .ptr 1 0 0] (.b ((goW sp) l[k])) (.b ((goW sp) l[k])) (hC (.var [.i sp.1, .i sp.2]) o) (hC (.var [.i sp.1, .i sp.2]) (addO ((goW sp) l[k]) l[k].id o)) (hC (.var [.i sp.1, .i sp.2]) (addO ((goW sp) l[k]) l[k].id o)) _ (ok63 l[k] sp o (by omega) hn (hx _ (yK hk'))) (by simp) (by simp) rfl (by simp [lendsOk, lendOk, lends, lend, wkL, wk, wkR, pos, Wai.enc]) rfl rfl rfl ⟨trivial, trivial, trivial⟩ ?_
  cases h : (goW sp) l[k] with
  | true =>
   have hf := fst_yes hk' h hno
   have hf2 : l.find? (goW sp) = some l[k] := uD.2 ⟨h, k, hk', rfl, fun j hj => by rw [hno j (by omega) hj]; rfl⟩
   unfold hC
   simp -implicitDefEqProofs only [rX,↓rY,↓reduceIte,Nat.reduceEqDiff,Nat.reduceAdd,reduceCtorEq,resP,tupV,leH,leB,leV,leVs,keepP,liveP,wfB,wfV,wfL,killE,kill,kills,St.kill,wt_k,retP_isA,hf,hf2,addO,uE]
  | false =>
   unfold hC
   simp -implicitDefEqProofs only [rX,↓rY,ofConst,↓reduceIte,Nat.reduceEqDiff,Nat.reduceAdd,reduceCtorEq,leE,leH,leB,leV,leVs,keepP,liveP,wfE,wfB,wfV,wfL,killE,kill,kills,St.kill,wt_k,yA,addO]
   exact ⟨by simp only [lo, hi, maxLen] at *; omega, k + 1, ⟨⟨by omega, fun j hj hlt => by
    by_cases e : j = k
    ·subst e; exact h
    ·exact hno j hj (by omega)⟩, by omega⟩, by simp⟩
 ·have hd : decide ((k : Int) < (l.length : Int)) = false := decide_eq_false (by omega)
  have hf := fst_no (p := goW sp) (l := l) fun j hj => hno j hj (by omega)
  have hf2 : l.find? (goW sp) = none := uF.2 fun x hx => by
   obtain ⟨j, hj, rfl⟩ := yO hx
   rw [hno j hj (by omega)]; simp
  simp -implicitDefEqProofs only [rX,↓rY,ofConst,↓reduceIte,Nat.reduceEqDiff,Nat.reduceAdd,resP,tupV,leH,leB,leV,leVs,keepP,liveP,wfB,wfV,wfL,hd,retP_isA,hf,hf2,uG]
theorem raw62 (l : List Wai) (sp : Sp) (o : List Int) (hl : l.length ≤ 2199023255552) (ho : o.length + l.length ≤ 4398046511104) (hn : Vd [sp]) (hx : ∀ x ∈ l, Vd x.need) :
  OkN Tryz.prog 62 [.sl 3 0 l.length, .clo 63 [.ptr 0 0 0, .ptr 1 0 0]] (hD (.var [.i sp.1, .i sp.2]) o 2 (l.map Wai.enc)) [2] (IsA (.sl 3 0 (keptD (goW sp) l).length) (hD (.var [.i sp.1, .i sp.2]) (o ++ outsD (goW sp) Wai.id l) 2 ((keptD (goW sp) l).map Wai.enc ++ vR (l.length - (keptD (goW sp) l).length) [.i 0, .nil]))) := by
 refine okN_of pol [0, 1, 3] lw62 (by simp) ⟨trivial, trivial, trivial, trivial⟩ (by simp [hD]; omega) ?_
 unfold c62 hD
 have htl : yE l.length (yL Wai.enc l) = yL Wai.enc l := yD (by simp)
 simp -implicitDefEqProofs only [rX,ofConst,↓reduceIte,Nat.reduceEqDiff,Nat.reduceAdd,reduceCtorEq,cxN,args0]
 refine call_isMA [0, 1, 2] [2] [2] [.bro 2 (l.map Wai.enc), .clo 63 [.ptr 0 0 0, .ptr 1 0 0]] (.i (fstI (goW sp) l)) (.i (fstI (goW sp) l)) (hC (.var [.i sp.1, .i sp.2]) o) (hC (.var [.i sp.1, .i sp.2]) (o ++ ((l.find? (goW sp)).map Wai.id).toList)) (hD (.var [.i sp.1, .i sp.2]) (o ++ ((l.find? (goW sp)).map Wai.id).toList) 2 (l.map Wai.enc)) _ (ok95c l sp o (by omega) hn hx) (by simp) (by simp) rfl (by simp [lendsOk, lendOk, lends, lend, wkL, wk, wkR, wkB, pos, blk, htl]) rfl rfl rfl ⟨trivial, trivial, trivial, trivial⟩ ?_
 by_cases hany : ∃ k, ∃ hk : k < l.length, (goW sp) l[k] = true ∧ ∀ j (hj : j < l.length), j < k → (goW sp) l[j] = false
 ·obtain ⟨k, hk, hp, hno⟩ := hany
  have hf := fst_yes hk hp hno
  have hf2 : l.find? (goW sp) = some l[k] := uD.2 ⟨hp, k, hk, rfl, fun j hj => by rw [hno j (by omega) hj]; rfl⟩
  obtain ⟨s1, s2, s3⟩ := rowsD_start hk hp hno Wai.id
  have hne : (((k : Int)) == -1) = false := by simp
  unfold hD
  simp -implicitDefEqProofs only [rX,↓rY,ofConst,↓reduceIte,Nat.reduceEqDiff,Nat.reduceAdd,reduceCtorEq,killE,kill,kills,St.kill,yA,hf,hf2,hne,uE]
  refine ⟨by simp only [lo, hi]; omega, ?_⟩
  refine loopP_intro (fun j : Nat => ⟨[(6, .i j), (5, .i (keptD (goW sp) (l.take j)).length), (0, .sl 3 0 l.length), (1, .clo 63 [.ptr 0 0 0, .ptr 1 0 0])], hD (.var [.i sp.1, .i sp.2]) (o ++ outsD (goW sp) Wai.id (l.take j)) 2 ((rowsD (goW sp) l j).map Wai.enc), 4⟩) (fun j => j ≤ l.length) (fun j => l.length - j) (k + 1) (by omega) ?_ ?_
  ·unfold hD
   simp -implicitDefEqProofs only [rX,↓reduceIte,Nat.reduceEqDiff,reduceCtorEq,leE,leH,leB,leV,leVs,keepP,liveP,wfE,wfB,wfV,wfL,yA,s1,s2,s3,yZ (Nat.le_of_lt hk)]
   omega
  rintro j hj
  unfold c62l0 hD
  have hkt := keptD_take (p := goW sp) (l := l) (j := j)
  have hrl := rowsD_len (p := goW sp) hj
  rcases yN j l.length with hj' | hj'
  ·have hd : decide ((j : Int) < (l.length : Int)) = true := decide_eq_true (by omega)
   have hjj : (0 : Int) ≤ j ∧ (j : Int) < l.length := ⟨by omega, by omega⟩
   obtain ⟨t1, t2⟩ := del_step (p := goW sp) (id := Wai.id) hj'
   have hol := outsD_len (p := goW sp) (id := Wai.id) (l := l.take j)
   rw [yZ hj] at hol
   simp -implicitDefEqProofs only [rX,↓rY,ofConst,cells?,splice,↓reduceIte,Nat.reduceEqDiff,arrSz,Nat.reduceAdd,reduceCtorEq,freshP,wt_len,wt_t,wt_C,yC,yA,hd]
   intro hm
   refine ⟨hjj, by rw [hrl]; exact hj', ?_⟩
   rw [rowsD_at hj']
   refine call_isMA [0, 1, 2] [2] [2] [.agg l[j].enc, .ptr 0 0 0, .ptr 1 0 0] (.b ((goW sp) l[j])) (.b ((goW sp) l[j])) (hC (.var [.i sp.1, .i sp.2]) (o ++ outsD (goW sp) Wai.id (l.take j))) (hC (.var [.i sp.1, .i sp.2]) (addO ((goW sp) l[j]) l[j].id (o ++ outsD (goW sp) Wai.id (l.take j)))) (hD (.var [.i sp.1, .i sp.2]) (addO ((goW sp) l[j]) l[j].id (o ++ outsD (goW sp) Wai.id (l.take j))) 2 ((rowsD (goW sp) l j).map Wai.enc) ++ [.var l[j].enc]) _ (ok63 l[j] sp (o ++ outsD (goW sp) Wai.id (l.take j)) (by rw [yG]; omega) hn (hx _ (yK hj'))) (by simp) (by simp) (by simp [hC, blk, renB, rens, ren, pos, enS]) (by simp [lendsOk, lendOk, lends, lend, wkL, wk, wkR, pos, Wai.enc]) (by simp [hC, hD, setAll, renB, rens, ren, back, pos, killB, kills, kill, Wai.enc]) rfl rfl (by simp [hD, keepP, liveP]) ?_
   cases h : (goW sp) l[j] with
   | true =>
    rw [if_pos h, yJ] at t1
    rw [if_pos h] at t2
    have hy := rowsD_yes hj' h
    unfold hD
    simp -implicitDefEqProofs only [rX,↓rY,ofConst,↓reduceIte,Nat.reduceEqDiff,Nat.reduceAdd,reduceCtorEq,leE,leH,leB,leV,leVs,keepP,liveP,wfE,wfB,wfV,wfL,killE,kill,kills,St.kill,wt_k,yA,addO]
    exact ⟨by simp only [lo, hi]; omega, j + 1, ⟨hj', by omega⟩, ⟨by omega, by rw [t1]⟩, by rw [t2, yG]; rfl, by rw [t2, vD], by rw [hy]⟩
   | false =>
    rw [h, if_neg (by simp)] at t1
    rw [h, if_neg (by simp), yJ] at t2
    have hy := rowsD_no hj' h
    unfold hD
    simp -implicitDefEqProofs only [rX,↓rY,ofConst,cells?,splice,↓reduceIte,Nat.reduceEqDiff,arrSz,Nat.reduceAdd,reduceCtorEq,leE,leH,leB,leV,leVs,keepP,liveP,wfE,wfB,wfV,wfL,killE,kill,kills,St.kill,wt_len,wt_t,wt_C,wt_D,wt_k,yA,addO]
    exact ⟨⟨by omega, by omega⟩, by rw [hrl]; omega, by simp only [lo, hi]; omega, by simp only [lo, hi]; omega, j + 1, ⟨hj', by omega⟩, ⟨by omega, by rw [t1, yG]; rfl⟩, by rw [t2], by rw [t2], by rw [hy, vC, show yU 2 ((rowsD (goW sp) l j)[(keptD (goW sp) (l.take j)).length]'(by rw [hrl]; omega)).enc = [] from rfl, yJ]⟩
  ·have hd : decide ((j : Int) < (l.length : Int)) = false := decide_eq_false (by omega)
   have hje : j = l.length := by omega
   subst hje
   obtain ⟨n1, n2⟩ := rowsD_end (p := goW sp) (l := l)
   simp -implicitDefEqProofs only [rX,↓rY,↓reduceIte,Nat.reduceEqDiff,arrSz,Nat.reduceAdd,reduceCtorEq,slcOk,yA,hd]
   intro hm
   rw [yY] at hkt ⊢
   refine ⟨⟨⟨by omega, by omega⟩, by omega⟩, by rw [hrl]; omega, ⟨⟨by omega, by omega⟩, by omega, by omega⟩, ?_⟩
   rw [retP_isA, n1, n2]
   simp -implicitDefEqProofs only [rX,↓reduceIte,Nat.reduceAdd,resP,tupV,leH,leB,leV,leVs,keepP,liveP,wfB,wfV,wfL,uR,uS]
 ·have hno : ∀ j (hj : j < l.length), (goW sp) l[j] = false := by
   intro j
   induction j using Nat.strongRecOn with
   | ind j ih =>
    intro hj
    cases h : (goW sp) l[j] with
    | false => rfl
    | true => exact absurd ⟨j, hj, h, fun i hi hlt => ih i hlt hi⟩ hany
  have hf := fst_no (p := goW sp) (l := l) hno
  have hf2 : l.find? (goW sp) = none := uF.2 fun x hx => by
   obtain ⟨j, hj, rfl⟩ := yO hx
   rw [hno j hj]; simp
  obtain ⟨e1, e2⟩ := del_none (id := Wai.id) hno
  have hme : ((-1 : Int) == -1) = true := rfl
  unfold hD
  simp -implicitDefEqProofs only [rX,↓rY,ofConst,↓reduceIte,Nat.reduceEqDiff,Nat.reduceAdd,reduceCtorEq,resP,tupV,leH,leB,leV,leVs,keepP,liveP,wfB,wfV,wfL,killE,kill,kills,St.kill,yA,hf,hf2,hme,uG,retP_isA,e1,e2,uA]
end Go.Fx.J
namespace Go.Fx.J
open Go Go.Fx Go.Proofs Go.Fx.R
set_option maxRecDepth 20000
theorem nil_row {k : Nat} : nilRow [V.nil] [.sl k 0 0] := ⟨rfl, fun i x y h1 h2 => by
 cases i with
 | zero => simp at h1 h2; exact .inr ⟨h1.symm, k, h2.symm⟩
 | succ i => simp at h1⟩
theorem del_tidy {f : FuncId} {cl : Nat} {c : Blk} {o : List Int} {sz n m : Nat} {els ks : List (List V)} {z : List V} (hc : ∃ cs, c = .var cs ∧ cs.all isD = true) (hm : m = ks.length)
  (h : OkN Tryz.prog f [.sl 3 0 n, .clo cl [.ptr 0 0 0, .ptr 1 0 0]] (hD c [] sz els) [2] (IsA (.sl 3 0 m) (hD c o sz (ks ++ vR (n - m) z)))) :
  OkN Tryz.prog f [.sl 3 0 n, .clo cl [.ptr 0 0 0, .ptr 1 0 0]] [c, .var [.nil], .arr 1 [], .arr sz els] [2] (IsA (.sl 3 0 m) (hD c o sz ks)) := by
 obtain ⟨cs, rfl, hcs⟩ := hc
 have hwf : ∀ {H : List Blk}, wfL H cs := fun {H} => wfL_all' fun x hx => by
  have := vS.1 hcs x hx
  cases x <;> simp_all [isD, wfV]
 have h2 : OkN Tryz.prog f [.sl 3 0 n, .clo cl [.ptr 0 0 0, .ptr 1 0 0]] [.var cs, .var [.nil], .arr 1 [], .arr sz els] [2] (IsA (.sl 3 0 m) (hD (.var cs) o sz (ks ++ vR (n - m) z))) := by
  refine okN_ghostP (args' := [.sl 3 0 n, .clo cl [.ptr 0 0 0, .ptr 1 0 0]]) (h0' := hD (.var cs) [] sz els) [0, 1, 3] rfl rfl ⟨trivial, trivial, trivial, trivial⟩ (by simp; omega) ⟨_, .nilB 1 [.nil] [.sl 2 0 0] rfl nil_row (.refl _), ?_⟩ h
  unfold hD
  simp -implicitDefEqProofs only [rX,↓reduceIte,reduceCtorEq,leE,leH,leB,leV,leVs,keepP,liveP,wfE,wfB,wfV,wfL,yA,args0]
  exact ⟨leVs_refl _, hwf⟩
 refine ⟨h2.1, Fn_ghostN [0, 1, 3] (by simp; omega) (by simp) h2.2 ?_⟩
 rintro r hs ⟨rfl, rfl⟩
 refine ⟨⟨trivial, trivial, trivial, trivial⟩, _, _, ⟨rfl, rfl⟩, by simp [hD], _, .shr 3 sz m _ rfl (.refl _), ?_⟩
 rw [List.take_left' hm.symm]
 unfold hD
 simp -implicitDefEqProofs only [rX,↓reduceIte,leE,leH,leB,leV,leVs,keepP,liveP,wfE,wfB,wfV,wfL,yA]
 exact ⟨leVs_refl _, hwf⟩
theorem ok89 (l : List Fet) (need : List Sp) (hl : l.length ≤ 2199023255552) (hn : Vd need) (hx : ∀ x ∈ l, Vd [x.sp]) :
  OkN Tryz.prog 89 [.sl 3 0 l.length, .clo 90 [.ptr 0 0 0, .ptr 1 0 0]] [.var [spans need], .var [.nil], .arr 1 [], .arr 3 (l.map Fet.enc)] [2] (IsA (.sl 3 0 (keptD (goF need) l).length) (hD (.var [spans need]) (outsD (goF need) Fet.id l) 3 ((keptD (goF need) l).map Fet.enc))) :=
 del_tidy ⟨_, rfl, rfl⟩ (by simp) (raw89 l need [] hl (by simp; omega) hn hx)
theorem ok62 (l : List Wai) (sp : Sp) (hl : l.length ≤ 2199023255552) (hn : Vd [sp]) (hx : ∀ x ∈ l, Vd x.need) :
  OkN Tryz.prog 62 [.sl 3 0 l.length, .clo 63 [.ptr 0 0 0, .ptr 1 0 0]] [.var [.i sp.1, .i sp.2], .var [.nil], .arr 1 [], .arr 2 (l.map Wai.enc)] [2] (IsA (.sl 3 0 (keptD (goW sp) l).length) (hD (.var [.i sp.1, .i sp.2]) (outsD (goW sp) Wai.id l) 2 ((keptD (goW sp) l).map Wai.enc))) :=
 del_tidy ⟨_, rfl, rfl⟩ (by simp) (raw62 l sp [] hl (by simp; omega) hn hx)
end Go.Fx.J
namespace Go.Fx.J
open Go Go.Fx Go.Proofs Go.Fx.R
set_option maxRecDepth 20000
abbrev ints (l : List Int) : V := .ro 1 (l.map encI)
def lessL {α : Type} (L : List α) (k : Nat) : List α := L.take k ++ L.drop (k + 1)
def cleanL (L : List Mis) (k : Nat) (key : S) (fl : List Fet) (wt : List Wai) : List Mis :=
 if wt = [] then lessL L k else L.set k ⟨key, keptD (goF (needed ⟨key, fl, wt⟩)) fl, wt⟩
def cleanO (key : S) (fl : List Fet) (wt : List Wai) : List Int := outsD (goF (needed ⟨key, fl, wt⟩)) Fet.id fl
theorem wf_enc {h : List Blk} {l : List Mis} : wfL h (l.map Mis.enc).flatten := wfL_all' fun x hx => by
 obtain ⟨e, he, hx⟩ := List.mem_flatten.1 hx
 obtain ⟨m, _, rfl⟩ := yQ.1 he
 unfold Mis.enc at hx
 simp at hx
 rcases hx with rfl | rfl | rfl <;> trivial
theorem gv_rows {l : List Mis} {M : Nat → Bool} {h : List Blk} : (l.map Mis.enc).map (gvL M h) = l.map Mis.enc := by
 rw [List.map_map]; rfl
theorem gv_rows' {l : List Mis} {M : Nat → Bool} {h : List Blk} : yL (gvL M h ∘ Mis.enc) l = l.map Mis.enc := rfl
theorem rowsM_less {l : List Mis} {k : Nat} {key : S} {f w : V} (hk : k < l.length) : (rowsM l k key f w).take k ++ (rowsM l k key f w).drop (k + 1) = (lessL l k).map Mis.enc := by
 unfold rowsM lessL
 rw [List.take_set_of_le (vZ k), List.drop_set_of_lt (by omega), yI, vN, vT]
theorem rowsM_C {l : List Mis} {k r : Nat} {key : S} {f w : V} {e : List V} (hr : k < r) (h : (rowsM l k key f w)[r]? = some e) : e.all isC = true := by
 unfold rowsM at h
 rw [List.getElem?_set_ne (by omega), List.getElem?_map] at h
 cases hm : l[r]? with
 | none => rw [hm] at h; cases h
 | some m =>
  rw [hm] at h
  obtain rfl : m.enc = e := by simpa using h
  rfl
theorem raw53 (last : Int) (L : List Mis) (k : Nat) (hk : k < L.length) (key : S) (fl : List Fet) (wt : List Wai) (hL : L.length ≤ 1000) (hl : fl.length ≤ 2199023255552) (hn : Vd (needed ⟨key, fl, wt⟩)) (hx : ∀ x ∈ fl, Vd [x.sp]) (hw : ∀ w ∈ wt, Vd w.need) :
  OkN Tryz.prog 53 [.ptr 0 0 0, .i k] (hF last L.length L k key fl wt) [2] (IsA (.sl 3 0 (cleanO key fl wt).length) (if wt = [] then [.var [.i last, .sl 1 0 (L.length - 1)], .arv 3 ((lessL L k).map Mis.enc), .dead, .arr 1 ((cleanO key fl wt).map encI)]
   else [.var [.i last, .sl 1 0 L.length], .arv 3 (rowsM L k key (.sl 2 0 (keptD (goF (needed ⟨key, fl, wt⟩)) fl).length) (wais wt)), .arr 3 ((keptD (goF (needed ⟨key, fl, wt⟩)) fl).map Fet.enc), .arr 1 ((cleanO key fl wt).map encI)])) := by
 refine okN_ofG pol [0, 1] lw53 (by simp) (by simp [keepP, liveP]) (by simp; omega) (s0 := ⟨args0 0 [.ptr 0 0 0, .i k], [.var [.i last, .sl 1 0 L.length], .arv 3 (rowsM L k key (.sl 2 0 fl.length) (wais wt)), .arr 3 (fl.map Fet.enc), .arr 1 []], 0⟩) ?_ ?_
 ·refine ⟨_, .virt 1 1 (by decide) (.refl _), ?_⟩
  simp -implicitDefEqProofs only [rX,↓reduceIte,reduceCtorEq,leE,leH,leB,leV,leVs,keepP,liveP,wfE,wfB,wfV,wfL,yA,args0,vF]
  exact wf_rows (by simp [wfV, liveP]) trivial
 unfold c53
 have hk' : k < (rowsM L k key (.sl 2 0 fl.length) (wais wt)).length := by rw [rowsM_len]; exact hk
 simp -implicitDefEqProofs only [rX,↓rY,ofConst,↓reduceIte,Nat.reduceEqDiff,arrSz,Nat.reduceAdd,reduceCtorEq,cxN,yA,args0]
 have hkk : (0 : Int) ≤ k ∧ (k : Int) < L.length := ⟨by omega, by omega⟩
 refine ⟨hkk, hk', ?_⟩
 rw [rowsM_at hk']
 refine ⟨by simp, ?_⟩
 refine call_is (ok57 key wt fun w h => (hw w h).2) (by simp [lendsOk, lendOk, lends, lend, wkL, wk, wkR, wkB, pos, blk]) rfl (by simp [keepP, liveP]) ?_
 simp -implicitDefEqProofs only [rX,↓rY,ofConst,cells?,splice,↓reduceIte,Nat.reduceEqDiff,Nat.reduceAdd,freshP,isC,yC,yB,yA]
 refine ⟨hk', ?_⟩
 rw [rowsM_at hk']
 simp -implicitDefEqProofs only [rX,↓rY,yM]
 have hne : ofS (nd wt) = needed ⟨key, fl, wt⟩ := rfl
 rw [hne]
 obtain ⟨nd', hnd⟩ : ∃ x, x = needed ⟨key, fl, wt⟩ := ⟨_, rfl⟩
 have hO : cleanO key fl wt = outsD (goF nd') Fet.id fl := by rw [hnd]; rfl
 rw [hO, ← hnd]
 rw [← hnd] at hn
 have hkl := keptD_len (p := goF nd') (l := fl)
 refine call_isMA [4, 5, 3, 2] [2] [3] [.sl 3 0 fl.length, .clo 90 [.ptr 0 0 0, .ptr 1 0 0]] (.sl 3 0 (keptD (goF nd') fl).length) (.sl 2 0 (keptD (goF nd') fl).length) _ _ [.var [.i last, .sl 1 0 L.length], .arv 3 (rowsM L k key (.sl 2 0 fl.length) (wais wt)), .arr 3 ((keptD (goF nd') fl).map Fet.enc), .arr 1 ((outsD (goF nd') Fet.id fl).map encI), .var [spans nd'], .var [.sl 3 0 (outsD (goF nd') Fet.id fl).length]] _ (ok89 fl nd' hl hn hx) (by simp) (by simp) rfl (by simp [lendsOk, lendOk, lends, lend, wkL, wk, pos]) (by unfold hD; simp only [yF, yH, renB, killB, rowsM_kill]; rfl) rfl rfl (by simp [keepP, liveP]) ?_
 have hR : (rowsM L k key (.sl 2 0 fl.length) (wais wt)).set k (yE 1 [sv key, .sl 2 0 fl.length, wais wt] ++ [.sl 2 0 (keptD (goF nd') fl).length] ++ yU 2 [sv key, .sl 2 0 fl.length, wais wt]) = rowsM L k key (.sl 2 0 (keptD (goF nd') fl).length) (wais wt) := by
  rw [rowsM_set]
  rfl
 simp -implicitDefEqProofs only [rX,↓rY,ofConst,cells?,splice,↓reduceIte,Nat.reduceEqDiff,Nat.reduceAdd,reduceCtorEq,killE,kill,kills,St.kill,isC,Nat.reduceLeDiff,yA]
 refine ⟨hk', ?_⟩
 have hk2 : k < (rowsM L k key (.sl 2 0 (keptD (goF nd') fl).length) (wais wt)).length := by rw [rowsM_len]; exact hk
 simp -implicitDefEqProofs only [rowsM_at hk',hR]
 refine ⟨hk2, ?_⟩
 rw [rowsM_at hk2]
 cases wt with
 | cons w wt =>
  have hz : (((wt.length + 1 : Nat) : Int) == 0) = false := by simp; omega
  simp -implicitDefEqProofs only [rX,↓rY,↓reduceIte,Nat.reduceAdd,reduceCtorEq,resP,tupV,leH,leB,leV,leVs,keepP,liveP,wfB,wfV,wfL,Nat.reduceLeDiff,yA,yM,hz,retP_isA,if_neg (show ¬ w :: wt = [] by simp)]
  exact fun _ => wf_rows (by simp [wfV, liveP]) trivial
 | nil =>
  have hz : (((0 : Nat) : Int) == 0) = true := rfl
  simp -implicitDefEqProofs only [rX,↓rY,↓reduceIte,yA,yM,hz]
  intro hm
  refine ⟨by simp only [lo, hi]; omega, ?_⟩
  have h91 := ok91 (rowsM L k key .any (wais [])) k (by rw [rowsM_len]; exact hk) fun r e hr he => rowsM_C hr he
  rw [rowsM_len, rowsM_less hk] at h91
  refine call_isMA [1] [] [] [.sl 0 0 L.length, .i k, .i ((k : Int) + 1)] (.sl 0 0 (L.length - 1)) (.sl 1 0 (L.length - 1)) _ _ [.var [.i last, .sl 1 0 L.length], .arv 3 ((lessL L k).map Mis.enc), .arr 3 ((keptD (goF nd') fl).map Fet.enc), .arr 1 ((outsD (goF nd') Fet.id fl).map encI), .var [spans nd'], .var [.sl 3 0 (outsD (goF nd') Fet.id fl).length]] _ h91 (by simp) (by simp) (by simp only [yF, yH, blk, vG, vH, renB, rowsM_ren]; rfl) (by simp [lendsOk, lendOk, lends, lend, wkL, wk, pos]) (by simp only [yF, yH, renB, killB, rowsM_kill, ren_rows]; rfl) rfl rfl (by simp [keepP, liveP]) ?_
  simp -implicitDefEqProofs only [rX,↓rY,cells?,splice,↓reduceIte,Nat.reduceEqDiff,Nat.reduceAdd,resP,tupV,leH,leB,leV,leVs,keepP,liveP,wfB,wfV,wfL,killE,kill,kills,St.kill,isC,Nat.reduceLeDiff,yC,yB,yA,retP_isA]
  exact wf_enc
theorem ok53 (last : Int) (L : List Mis) (k : Nat) (hk : k < L.length) (key : S) (fl : List Fet) (wt : List Wai) (hL : L.length ≤ 1000) (hl : fl.length ≤ 2199023255552) (hn : Vd (needed ⟨key, fl, wt⟩)) (hx : ∀ x ∈ fl, Vd [x.sp]) (hw : ∀ w ∈ wt, Vd w.need) :
  OkN Tryz.prog 53 [.ptr 0 0 0, .i k] (hF last L.length L k key fl wt) [2] (IsA (ints (cleanO key fl wt)) [.var [.i last, .sl 1 0 (cleanL L k key fl wt).length], .arr 3 ((cleanL L k key fl wt).map Mis.enc), .dead]) := by
 have h := raw53 last L k hk key fl wt hL hl hn hx hw
 have htk : yE (cleanO key fl wt).length (yL encI (cleanO key fl wt)) = yL encI (cleanO key fl wt) := yD (by simp)
 refine ⟨h.1, Fn_ghostN [0, 1] (by simp; omega) (by simp) h.2 ?_⟩
 rintro r hs ⟨rfl, rfl⟩
 by_cases hz : wt = []
 ·rw [if_pos hz]
  have hl' : L.length - 1 = (lessL L k).length := by unfold lessL; simp; omega
  have hc : cleanL L k key fl wt = lessL L k := if_pos hz
  rw [hc, hl']
  have hg : St.give (fun j => j == 3) ⟨[(0, .sl 3 0 (cleanO key fl wt).length)], [.var [.i last, .sl 1 0 (lessL L k).length], .arv 3 ((lessL L k).map Mis.enc), .dead, .arr 1 ((cleanO key fl wt).map encI)], 0⟩ = ⟨[(0, ints (cleanO key fl wt))], [.var [.i last, .sl 1 0 (lessL L k).length], .arv 3 ((lessL L k).map Mis.enc), .dead, .dead], 0⟩ := by
   simp [St.give, gvE, gvH, gvB, gvL, gvV, gv_rows', blk, htk]
  refine ⟨⟨trivial, trivial, trivial⟩, _, _, ⟨rfl, rfl⟩, by simp, _, .give (fun j => j == 3) (by simp) (.cls 1 3 ((lessL L k).map Mis.enc) ?_ (fun e he => ?_) (.refl _)), ?_⟩
  ·rw [hg]; rfl
  ·obtain ⟨m, _, rfl⟩ := yQ.1 he; rfl
  ·rw [hg]
   simp -implicitDefEqProofs only [rX,↓reduceIte,leE,leH,leB,leV,leVs,keepP,liveP,wfE,wfB,wfV,wfL]
 ·rw [if_neg hz]
  have hc : cleanL L k key fl wt = L.set k ⟨key, keptD (goF (needed ⟨key, fl, wt⟩)) fl, wt⟩ := if_neg hz
  have hr : (L.set k ⟨key, keptD (goF (needed ⟨key, fl, wt⟩)) fl, wt⟩).map Mis.enc = rowsM L k key (fets (keptD (goF (needed ⟨key, fl, wt⟩)) fl)) (wais wt) := by
   unfold rowsM
   rw [vC]
   rfl
  rw [hc, List.length_set]
  have hk2 : yE (keptD (goF (needed ⟨key, fl, wt⟩)) fl).length (yL Fet.enc (keptD (goF (needed ⟨key, fl, wt⟩)) fl)) = yL Fet.enc (keptD (goF (needed ⟨key, fl, wt⟩)) fl) := yD (by simp)
  have hg : St.give (fun j => j == 3 || j == 2) ⟨[(0, .sl 3 0 (cleanO key fl wt).length)], [.var [.i last, .sl 1 0 L.length], .arv 3 (rowsM L k key (.sl 2 0 (keptD (goF (needed ⟨key, fl, wt⟩)) fl).length) (wais wt)), .arr 3 ((keptD (goF (needed ⟨key, fl, wt⟩)) fl).map Fet.enc), .arr 1 ((cleanO key fl wt).map encI)], 0⟩ = ⟨[(0, ints (cleanO key fl wt))], [.var [.i last, .sl 1 0 L.length], .arv 3 ((L.set k ⟨key, keptD (goF (needed ⟨key, fl, wt⟩)) fl, wt⟩).map Mis.enc), .dead, .dead], 0⟩ := by
   rw [hr]
   simp [St.give, gvE, gvH, gvB, gvL, gvV, rowsM_gv, blk, htk, hk2]
  refine ⟨⟨trivial, trivial, trivial⟩, _, _, ⟨rfl, rfl⟩, by simp, _, .give (fun j => j == 3 || j == 2) (by simp) (.cls 1 3 ((L.set k ⟨key, keptD (goF (needed ⟨key, fl, wt⟩)) fl, wt⟩).map Mis.enc) ?_ (fun e he => ?_) (.refl _)), ?_⟩
  ·rw [hg]; rfl
  ·obtain ⟨m, _, rfl⟩ := yQ.1 he; rfl
  ·rw [hg]
   simp -implicitDefEqProofs only [rX,↓reduceIte,leE,leH,leB,leV,leVs,keepP,liveP,wfE,wfB,wfV,wfL]
theorem aw_frz {cx : Cx} {xs : List Nat} {c : LCode} {N R : St → Prop} {X : Nat → St → Prop} {e : Env} {h : List Blk} {b : Nat} : aw cx (.frz xs c) N X R ⟨e, h, b⟩ = frzP cx.fx xs ⟨e, h, b⟩ fun s' => aw cx c N X R s' := rfl
def frzQ (fx : List Nat) (v : V) (r : List Nat) (s : St) (K : St → Prop) : Prop :=
 match v with
 | .sl k _ _ => frz1 fx k (blk s.h k) s fun s' => frzP fx r s' K
 | _ => frzP fx r s K
theorem frzP_n {fx : List Nat} {s : St} {K : St → Prop} : frzP fx [] s K = K s := rfl
theorem frzP_c {fx : List Nat} {x : Nat} {r : List Nat} {e : Env} {h : List Blk} {b : Nat} {K : St → Prop} : frzP fx (x :: r) ⟨e, h, b⟩ K = frzQ fx (get e x) r ⟨e, h, b⟩ K := rfl
theorem frzQ_s {fx : List Nat} {k i n : Nat} {r : List Nat} {e : Env} {h : List Blk} {b : Nat} {K : St → Prop} : frzQ fx (.sl k i n) r ⟨e, h, b⟩ K = frz1 fx k (blk h k) ⟨e, h, b⟩ fun s' => frzP fx r s' K := rfl
theorem frz1_a {fx : List Nat} {k sz : Nat} {els : List (List V)} {e : Env} {h : List Blk} {b : Nat} {K : St → Prop} : frz1 fx k (.arr sz els) ⟨e, h, b⟩ K = (k ∉ fx ∧ K ⟨frzE k sz els e, (h.map (frzB k sz els)).set k .dead, b⟩) := rfl
@[congr] theorem c_frzQ {fx : List Nat} {v v' : V} {r : List Nat} {s : St} {K : St → Prop} (q : v = v') : frzQ fx v r s K = frzQ fx v' r s K := by rw [q]
@[congr] theorem c_frz1 {fx : List Nat} {k : Nat} {B B' : Blk} {s : St} {K : St → Prop} (q : B = B') : frz1 fx k B s K = frz1 fx k B' s K := by rw [q]
@[congr] theorem c_frzP {fx xs : List Nat} {s s' : St} {K : St → Prop} (q : s = s') : frzP fx xs s K = frzP fx xs s' K := by rw [q]
theorem op_litsf {cx : Cx} {e : Env} {h : List Blk} {b : Nat} {K : V → St → Prop} {xs : List Nat} {j sz n : Nat} {z : List Value} {ps : List (Nat × Operand)} : aOp cx (.litsf xs j sz n z ps) ⟨e, h, b⟩ K =
  frzP (cx.fx ++ cx.bn) xs ⟨e, h, b⟩ fun s => litsP s.e sz (vR n (z.map .v)) ps fun els => freshP s.h (s.b + j) ∧ K (.sl (s.b + j) 0 n) { s with h := s.h.set (s.b + j) (.arr sz els) } := rfl
theorem frzQ_r {fx : List Nat} {k : Nat} {l : List (List V)} {r : List Nat} {s : St} {K : St → Prop} : frzQ fx (.ro k l) r s K = frzP fx r s K := rfl
theorem frzQ_a {fx : List Nat} {l : List V} {r : List Nat} {s : St} {K : St → Prop} : frzQ fx (.agg l) r s K = frzP fx r s K := rfl
set_option maxRecDepth 20000
def c10f : LCode :=
 (.seq
 (.reg 2 [
 ⟨(some 4), .box 0 (.tmp 0), none⟩,
 ⟨(some 8), .alloc 1 (.agg #[.int .i64 0, .slice none 0 0]), none⟩,
 ⟨(some 9), .mov (.const (.slice none 0 0)), none⟩,
 ⟨(some 10), .mov (.const (.int .i64 0)), none⟩])
 (.seq
 (.seq
 (.reg 0 [
 ⟨(some 19), .mov (.tmp 1), none⟩,
 ⟨(some 20), .lens (.tmp 19), none⟩,
 ⟨(some 21), .bin .gtr false (.tmp 20) (.const (.int .i64 4096)), none⟩,
 ⟨(some 22), .mov (.tmp 21), none⟩,
 ⟨(some 23), .mov (.tmp 3), (some (22, false))⟩,
 ⟨(some 24), .call 37 [(.tmp 23)], (some (22, false))⟩,
 ⟨(some 25), .not (.tmp 24), (some (22, false))⟩,
 ⟨(some 26), .pick (.tmp 22) (.const (.bool true)) (.tmp 25), none⟩,
 ⟨(some 27), .mov (.tmp 26), none⟩,
 ⟨(some 28), .mov (.tmp 3), (some (27, false))⟩,
 ⟨(some 29), .len (.tmp 28), (some (27, false))⟩,
 ⟨(some 30), .bin .eql false (.tmp 29) (.const (.int .i64 0)), (some (27, false))⟩,
 ⟨(some 31), .pick (.tmp 27) (.const (.bool true)) (.tmp 30), none⟩])
 (.cond (.tmp 31)
 (.seq
 (.reg 0 [
 ⟨(some 32), .load (some 2) (.tmp 4), none⟩,
 ⟨none, .store 2 (.tmp 8) (.tmp 32), none⟩,
 ⟨(some 9), .mov (.const (.slice none 0 0)), none⟩,
 ⟨(some 10), .mov (.const (.int .i64 1)), none⟩])
 .ret)
 .skip))
 (.seq
 (.reg 0 [
 ⟨(some 34), .load (some 2) (.tmp 4), none⟩,
 ⟨(some 35), .mov (.tmp 1), none⟩,
 ⟨(some 36), .call 38 [(.tmp 34), (.tmp 35)], none⟩,
 ⟨(some 33), .mov (.tmp 36), none⟩,
 ⟨(some 37), .ext (.tmp 33) 0, none⟩,
 ⟨(some 38), .ext (.tmp 33) 1, none⟩,
 ⟨(some 11), .mov (.tmp 37), none⟩,
 ⟨(some 12), .mov (.tmp 38), none⟩])
 (.seq
 (.reg 1 [
 ⟨(some 39), .load (some 2) (.tmp 4), none⟩,
 ⟨(some 13), .alloc 0 (.agg #[.int .i64 0, .slice none 0 0]), none⟩,
 ⟨none, .store 2 (.tmp 13) (.tmp 39), none⟩])
 (.seq
 (.seq
 (.reg 0 [
 ⟨(some 40), .mov (.tmp 12), none⟩,
 ⟨(some 41), .not (.tmp 40), none⟩])
 (.cond (.tmp 41)
 (.seq
 (.seq
 (.reg 0 [
 ⟨(some 42), .fld 1 (.tmp 4), none⟩,
 ⟨(some 43), .load none (.tmp 42), none⟩,
 ⟨(some 44), .len (.tmp 43), none⟩,
 ⟨(some 45), .bin .geq false (.tmp 44) (.const (.int .i64 1000)), none⟩])
 (.cond (.tmp 45)
 (.seq
 (.reg 0 [
 ⟨(some 46), .load (some 2) (.tmp 4), none⟩,
 ⟨none, .store 2 (.tmp 8) (.tmp 46), none⟩,
 ⟨(some 9), .mov (.const (.slice none 0 0)), none⟩,
 ⟨(some 10), .mov (.const (.int .i64 2)), none⟩])
 .ret)
 .skip))
 (.reg 1 [
 ⟨(some 47), .fld 1 (.tmp 4), none⟩,
 ⟨(some 48), .load none (.tmp 47), none⟩,
 ⟨(some 49), .call 40 [(.tmp 48)], none⟩,
 ⟨(some 50), .mov (.tmp 11), none⟩,
 ⟨(some 51), .mov (.tmp 1), none⟩,
 ⟨(some 52), .build [.string ⟨#[]⟩, .slice none 0 0, .slice none 0 0] [(0, 1, (.tmp 51))], none⟩,
 ⟨(some 53), .lits 0 3 1 [.string ⟨#[]⟩, .slice none 0 0, .slice none 0 0] [(0, (.tmp 52))], none⟩,
 ⟨(some 54), .call 39 [(.tmp 49), (.tmp 50), (.tmp 53)], none⟩,
 ⟨(some 55), .fld 1 (.tmp 13), none⟩,
 ⟨none, .store 1 (.tmp 55) (.tmp 54), none⟩]))
 .skip))
 (.seq
 (.reg 0 [
 ⟨(some 57), .load (some 2) (.tmp 13), none⟩,
 ⟨(some 58), .mov (.tmp 11), none⟩,
 ⟨(some 59), .call 41 [(.tmp 57), (.tmp 58)], none⟩,
 ⟨(some 56), .mov (.tmp 59), none⟩,
 ⟨(some 60), .ext (.tmp 56) 0, none⟩,
 ⟨(some 61), .ext (.tmp 56) 1, none⟩,
 ⟨none, .store 2 (.tmp 13) (.tmp 60), none⟩,
 ⟨(some 14), .mov (.tmp 61), none⟩])
 (.seq
 (.reg 0 [
 ⟨(some 63), .mov (.tmp 14), none⟩,
 ⟨(some 64), .nilc (.tmp 63), none⟩,
 ⟨(some 65), .load (some 3) (.tmp 64), none⟩,
 ⟨(some 66), .mov (.tmp 2), none⟩,
 ⟨(some 67), .call 42 [(.tmp 65), (.tmp 66)], none⟩,
 ⟨(some 62), .mov (.tmp 67), none⟩,
 ⟨(some 68), .ext (.tmp 62) 0, none⟩,
 ⟨(some 69), .ext (.tmp 62) 1, none⟩,
 ⟨(some 15), .mov (.tmp 68), none⟩,
 ⟨(some 16), .mov (.tmp 69), none⟩])
 (.seq
 (.seq
 (.reg 0 [
 ⟨(some 70), .mov (.tmp 16), none⟩])
 (.cond (.tmp 70)
 (.seq
 (.reg 0 [
 ⟨(some 71), .load (some 2) (.tmp 4), none⟩,
 ⟨none, .store 2 (.tmp 8) (.tmp 71), none⟩,
 ⟨(some 9), .mov (.const (.slice none 0 0)), none⟩,
 ⟨(some 10), .mov (.const (.int .i64 6)), none⟩])
 .ret)
 .skip))
 (.seq
 (.reg 0 [
 ⟨(some 72), .mov (.tmp 3), none⟩,
 ⟨(some 73), .mov (.tmp 14), none⟩,
 ⟨(some 74), .nilc (.tmp 73), none⟩,
 ⟨(some 75), .load (some 3) (.tmp 74), none⟩,
 ⟨(some 76), .call 44 [(.tmp 75)], none⟩,
 ⟨(some 77), .call 43 [(.tmp 72), (.tmp 76)], none⟩,
 ⟨(some 17), .mov (.tmp 77), none⟩])
 (.seq
 (.seq
 (.reg 0 [
 ⟨(some 78), .mov (.tmp 14), none⟩,
 ⟨(some 79), .nilc (.tmp 78), none⟩,
 ⟨(some 80), .fld 2 (.tmp 79), none⟩,
 ⟨(some 81), .load none (.tmp 80), none⟩,
 ⟨(some 82), .len (.tmp 81), none⟩,
 ⟨(some 83), .bin .geq false (.tmp 82) (.const (.int .i64 1000)), none⟩,
 ⟨(some 84), .mov (.tmp 83), none⟩,
 ⟨(some 85), .fld 0 (.tmp 4), (some (84, false))⟩,
 ⟨(some 86), .load none (.tmp 85), (some (84, false))⟩,
 ⟨(some 87), .mov (.tmp 17), (some (84, false))⟩,
 ⟨(some 88), .len (.tmp 87), (some (84, false))⟩,
 ⟨(some 89), .bin .sub true (.const (.int .i64 1152921504606846976)) (.tmp 88), (some (84, false))⟩,
 ⟨(some 90), .bin .gtr false (.tmp 86) (.tmp 89), (some (84, false))⟩,
 ⟨(some 91), .pick (.tmp 84) (.const (.bool true)) (.tmp 90), none⟩])
 (.cond (.tmp 91)
 (.seq
 (.reg 0 [
 ⟨(some 92), .load (some 2) (.tmp 4), none⟩,
 ⟨none, .store 2 (.tmp 8) (.tmp 92), none⟩,
 ⟨(some 9), .mov (.const (.slice none 0 0)), none⟩,
 ⟨(some 10), .mov (.const (.int .i64 2)), none⟩])
 .ret)
 .skip))
 (.seq
 (.tree 1
 (.take 0 [12, 13, 14] ⟨(some 93), .mov (.tmp 14), none⟩
 (.take 1 [2, 3, 4, 11, 12, 13, 14] ⟨(some 94), .mov (.tmp 14), none⟩
 (.take 2 [3, 4, 11, 12, 13, 14] ⟨(some 95), .nilc (.tmp 94), none⟩
 (.take 3 [4, 11, 12, 13, 14] ⟨(some 96), .fld 2 (.tmp 95), none⟩
 (.take 4 [11, 12, 13, 14] ⟨(some 97), .load none (.tmp 96), none⟩
 (.take 5 [11, 12, 13, 14] ⟨(some 98), .mov (.tmp 15), none⟩
 (.take 6 [9, 10, 11, 12, 13, 14] ⟨(some 99), .mov (.tmp 2), none⟩
 (.take 7 [8, 9, 10, 11, 12, 13, 14] ⟨(some 100), .mov (.tmp 3), none⟩
 (.alt 8 ⟨(some 101), .call 46 [(.tmp 100)], none⟩ true
 (.take 9 [10, 11, 12, 13, 14] ⟨(some 102), .build [.int .i64 0, .slice none 0 0] [(0, 1, (.tmp 99)), (1, 1, (.tmp 101))], none⟩
 (.alt 10 ⟨(some 103), .litsf [101] 0 2 1 [.int .i64 0, .slice none 0 0] [(0, (.tmp 102))], none⟩ true
 (.alt 11 ⟨(some 104), .call 45 [(.tmp 97), (.tmp 98), (.tmp 103)], none⟩ false
 (.take 12 [13, 14] ⟨(some 105), .nilc (.tmp 93), none⟩
 (.take 13 [14] ⟨(some 106), .fld 2 (.tmp 105), none⟩
 (.alt 14 ⟨none, .store 1 (.tmp 106) (.tmp 104), none⟩ false
 .done
 .none)))
 .none)
 .none))
 .none))))))))))
 (.frz [104] (.seq
 (.reg 0 [
 ⟨(some 107), .mov (.tmp 14), none⟩,
 ⟨(some 108), .mov (.tmp 17), none⟩,
 ⟨(some 109), .call 47 [(.tmp 13), (.tmp 107), (.tmp 108)], none⟩,
 ⟨(some 18), .mov (.tmp 109), none⟩])
 (.seq
 (.reg 0 [
 ⟨(some 110), .load (some 2) (.tmp 13), none⟩,
 ⟨(some 111), .mov (.tmp 18), none⟩,
 ⟨none, .store 2 (.tmp 8) (.tmp 110), none⟩,
 ⟨(some 9), .mov (.tmp 111), none⟩,
 ⟨(some 10), .mov (.const (.int .i64 0)), none⟩])
 .ret))))))))))))))
def c15f : LCode :=
 (.seq
 (.reg 2 [
 ⟨(some 3), .box 0 (.tmp 0), none⟩,
 ⟨(some 6), .alloc 1 (.agg #[.int .i64 0, .slice none 0 0]), none⟩,
 ⟨(some 7), .mov (.const (.slice none 0 0)), none⟩,
 ⟨(some 8), .mov (.const (.int .i64 0)), none⟩])
 (.seq
 (.reg 0 [
 ⟨(some 16), .load (some 2) (.tmp 3), none⟩,
 ⟨(some 17), .mov (.tmp 1), none⟩,
 ⟨(some 18), .call 38 [(.tmp 16), (.tmp 17)], none⟩,
 ⟨(some 15), .mov (.tmp 18), none⟩,
 ⟨(some 19), .ext (.tmp 15) 0, none⟩,
 ⟨(some 20), .ext (.tmp 15) 1, none⟩,
 ⟨(some 9), .mov (.tmp 19), none⟩,
 ⟨(some 10), .mov (.tmp 20), none⟩])
 (.seq
 (.seq
 (.reg 0 [
 ⟨(some 21), .mov (.tmp 10), none⟩,
 ⟨(some 22), .not (.tmp 21), none⟩])
 (.cond (.tmp 22)
 (.seq
 (.reg 0 [
 ⟨(some 23), .load (some 2) (.tmp 3), none⟩,
 ⟨none, .store 2 (.tmp 6) (.tmp 23), none⟩,
 ⟨(some 7), .mov (.const (.slice none 0 0)), none⟩,
 ⟨(some 8), .mov (.const (.int .i64 5)), none⟩])
 .ret)
 .skip))
 (.seq
 (.reg 0 [
 ⟨(some 25), .fld 1 (.tmp 3), none⟩,
 ⟨(some 26), .load none (.tmp 25), none⟩,
 ⟨(some 27), .mov (.tmp 9), none⟩,
 ⟨(some 28), .idx 3 (.tmp 26) (.tmp 27), none⟩,
 ⟨(some 29), .load (some 3) (.tmp 28), none⟩,
 ⟨(some 30), .mov (.tmp 2), none⟩,
 ⟨(some 31), .call 42 [(.tmp 29), (.tmp 30)], none⟩,
 ⟨(some 24), .mov (.tmp 31), none⟩,
 ⟨(some 32), .ext (.tmp 24) 0, none⟩,
 ⟨(some 33), .ext (.tmp 24) 1, none⟩,
 ⟨(some 11), .mov (.tmp 32), none⟩,
 ⟨(some 10), .mov (.tmp 33), none⟩])
 (.seq
 (.seq
 (.reg 0 [
 ⟨(some 34), .mov (.tmp 10), none⟩,
 ⟨(some 35), .not (.tmp 34), none⟩])
 (.cond (.tmp 35)
 (.seq
 (.reg 0 [
 ⟨(some 36), .load (some 2) (.tmp 3), none⟩,
 ⟨none, .store 2 (.tmp 6) (.tmp 36), none⟩,
 ⟨(some 7), .mov (.const (.slice none 0 0)), none⟩,
 ⟨(some 8), .mov (.const (.int .i64 5)), none⟩])
 .ret)
 .skip))
 (.seq
 (.reg 1 [
 ⟨(some 38), .load (some 2) (.tmp 3), none⟩,
 ⟨(some 39), .mov (.tmp 9), none⟩,
 ⟨(some 40), .call 41 [(.tmp 38), (.tmp 39)], none⟩,
 ⟨(some 37), .mov (.tmp 40), none⟩,
 ⟨(some 41), .ext (.tmp 37) 0, none⟩,
 ⟨(some 42), .ext (.tmp 37) 1, none⟩,
 ⟨(some 12), .alloc 0 (.agg #[.int .i64 0, .slice none 0 0]), none⟩,
 ⟨none, .store 2 (.tmp 12) (.tmp 41), none⟩,
 ⟨(some 13), .mov (.tmp 42), none⟩])
 (.seq
 (.reg 0 [
 ⟨(some 43), .mov (.tmp 13), none⟩,
 ⟨(some 44), .mov (.tmp 13), none⟩,
 ⟨(some 45), .nilc (.tmp 44), none⟩,
 ⟨(some 46), .fld 2 (.tmp 45), none⟩,
 ⟨(some 47), .load none (.tmp 46), none⟩,
 ⟨(some 48), .mov (.tmp 11), none⟩,
 ⟨(some 49), .mov (.tmp 11), none⟩,
 ⟨(some 50), .bin .add true (.tmp 49) (.const (.int .i64 1)), none⟩,
 ⟨(some 51), .call 52 [(.tmp 47), (.tmp 48), (.tmp 50)], none⟩,
 ⟨(some 52), .nilc (.tmp 43), none⟩,
 ⟨(some 53), .fld 2 (.tmp 52), none⟩,
 ⟨none, .store 1 (.tmp 53) (.tmp 51), none⟩])
 (.frz [51] (.seq
 (.reg 0 [
 ⟨(some 54), .mov (.tmp 9), none⟩,
 ⟨(some 55), .call 53 [(.tmp 12), (.tmp 54)], none⟩,
 ⟨(some 14), .mov (.tmp 55), none⟩])
 (.seq
 (.reg 0 [
 ⟨(some 56), .load (some 2) (.tmp 12), none⟩,
 ⟨(some 57), .mov (.tmp 14), none⟩,
 ⟨none, .store 2 (.tmp 6) (.tmp 56), none⟩,
 ⟨(some 7), .mov (.tmp 57), none⟩,
 ⟨(some 8), .mov (.const (.int .i64 0)), none⟩])
 .ret))))))))))
def c18f : LCode :=
 (.seq
 (.reg 2 [
 ⟨(some 4), .box 0 (.tmp 0), none⟩,
 ⟨(some 8), .alloc 1 (.agg #[.int .i64 0, .slice none 0 0]), none⟩,
 ⟨(some 9), .mov (.const (.slice none 0 0)), none⟩,
 ⟨(some 10), .mov (.const (.slice none 0 0)), none⟩,
 ⟨(some 11), .mov (.const (.int .i64 0)), none⟩])
 (.seq
 (.reg 0 [
 ⟨(some 26), .load (some 2) (.tmp 4), none⟩,
 ⟨(some 27), .mov (.tmp 1), none⟩,
 ⟨(some 28), .call 38 [(.tmp 26), (.tmp 27)], none⟩,
 ⟨(some 25), .mov (.tmp 28), none⟩,
 ⟨(some 29), .ext (.tmp 25) 0, none⟩,
 ⟨(some 30), .ext (.tmp 25) 1, none⟩,
 ⟨(some 12), .mov (.tmp 29), none⟩,
 ⟨(some 13), .mov (.tmp 30), none⟩])
 (.seq
 (.seq
 (.reg 0 [
 ⟨(some 31), .mov (.tmp 13), none⟩,
 ⟨(some 32), .not (.tmp 31), none⟩,
 ⟨(some 33), .mov (.tmp 32), none⟩,
 ⟨(some 34), .fld 1 (.tmp 4), (some (33, false))⟩,
 ⟨(some 35), .load none (.tmp 34), (some (33, false))⟩,
 ⟨(some 36), .mov (.tmp 12), (some (33, false))⟩,
 ⟨(some 37), .idx 3 (.tmp 35) (.tmp 36), (some (33, false))⟩,
 ⟨(some 38), .load (some 3) (.tmp 37), (some (33, false))⟩,
 ⟨(some 39), .mov (.tmp 2), (some (33, false))⟩,
 ⟨(some 40), .call 54 [(.tmp 38), (.tmp 39)], (some (33, false))⟩,
 ⟨(some 41), .bin .lss false (.tmp 40) (.const (.int .i64 0)), (some (33, false))⟩,
 ⟨(some 42), .pick (.tmp 33) (.const (.bool true)) (.tmp 41), none⟩])
 (.cond (.tmp 42)
 (.seq
 (.reg 0 [
 ⟨(some 43), .load (some 2) (.tmp 4), none⟩,
 ⟨none, .store 2 (.tmp 8) (.tmp 43), none⟩,
 ⟨(some 9), .mov (.const (.slice none 0 0)), none⟩,
 ⟨(some 10), .mov (.const (.slice none 0 0)), none⟩,
 ⟨(some 11), .mov (.const (.int .i64 5)), none⟩])
 .ret)
 .skip))
 (.seq
 (.seq
 (.reg 0 [
 ⟨(some 44), .mov (.tmp 3), none⟩,
 ⟨(some 45), .call 37 [(.tmp 44)], none⟩,
 ⟨(some 46), .not (.tmp 45), none⟩])
 (.cond (.tmp 46)
 (.seq
 (.reg 0 [
 ⟨(some 47), .load (some 2) (.tmp 4), none⟩,
 ⟨none, .store 2 (.tmp 8) (.tmp 47), none⟩,
 ⟨(some 9), .mov (.const (.slice none 0 0)), none⟩,
 ⟨(some 10), .mov (.const (.slice none 0 0)), none⟩,
 ⟨(some 11), .mov (.const (.int .i64 1)), none⟩])
 .ret)
 .skip))
 (.seq
 (.reg 1 [
 ⟨(some 49), .load (some 2) (.tmp 4), none⟩,
 ⟨(some 50), .mov (.tmp 12), none⟩,
 ⟨(some 51), .call 41 [(.tmp 49), (.tmp 50)], none⟩,
 ⟨(some 48), .mov (.tmp 51), none⟩,
 ⟨(some 52), .ext (.tmp 48) 0, none⟩,
 ⟨(some 53), .ext (.tmp 48) 1, none⟩,
 ⟨(some 14), .alloc 0 (.agg #[.int .i64 0, .slice none 0 0]), none⟩,
 ⟨none, .store 2 (.tmp 14) (.tmp 52), none⟩,
 ⟨(some 15), .mov (.tmp 53), none⟩])
 (.seq
 (.reg 0 [
 ⟨(some 54), .mov (.tmp 15), none⟩,
 ⟨(some 55), .nilc (.tmp 54), none⟩,
 ⟨(some 56), .load (some 3) (.tmp 55), none⟩,
 ⟨(some 57), .mov (.tmp 2), none⟩,
 ⟨(some 58), .call 54 [(.tmp 56), (.tmp 57)], none⟩,
 ⟨(some 16), .mov (.tmp 58), none⟩])
 (.seq
 (.reg 1 [
 ⟨(some 59), .mov (.tmp 15), none⟩,
 ⟨(some 60), .nilc (.tmp 59), none⟩,
 ⟨(some 61), .fld 1 (.tmp 60), none⟩,
 ⟨(some 62), .load none (.tmp 61), none⟩,
 ⟨(some 63), .mov (.tmp 16), none⟩,
 ⟨(some 64), .idx 3 (.tmp 62) (.tmp 63), none⟩,
 ⟨(some 65), .fld 1 (.tmp 64), none⟩,
 ⟨(some 66), .load (some 2) (.tmp 65), none⟩,
 ⟨(some 67), .lits 0 2 1 [.int .i64 0, .int .i64 0] [(0, (.tmp 66))], none⟩,
 ⟨(some 17), .mov (.tmp 67), none⟩])
 (.frz [67] (.seq
 (.reg 0 [
 ⟨(some 68), .mov (.tmp 15), none⟩,
 ⟨(some 69), .mov (.tmp 15), none⟩,
 ⟨(some 70), .nilc (.tmp 69), none⟩,
 ⟨(some 71), .fld 1 (.tmp 70), none⟩,
 ⟨(some 72), .load none (.tmp 71), none⟩,
 ⟨(some 73), .mov (.tmp 16), none⟩,
 ⟨(some 74), .mov (.tmp 16), none⟩,
 ⟨(some 75), .bin .add true (.tmp 74) (.const (.int .i64 1)), none⟩,
 ⟨(some 76), .call 55 [(.tmp 72), (.tmp 73), (.tmp 75)], none⟩,
 ⟨(some 77), .nilc (.tmp 68), none⟩,
 ⟨(some 78), .fld 1 (.tmp 77), none⟩,
 ⟨none, .store 1 (.tmp 78) (.tmp 76), none⟩])
 (.seq
 (.reg 0 [
 ⟨(some 79), .mov (.tmp 17), none⟩,
 ⟨(some 80), .mov (.tmp 3), none⟩,
 ⟨(some 81), .call 56 [(.tmp 79), (.tmp 80)], none⟩,
 ⟨(some 18), .mov (.tmp 81), none⟩])
 (.seq
 (.reg 0 [
 ⟨(some 19), .mov (.const (.slice none 0 0)), none⟩])
 (.seq
 (.reg 0 [
 ⟨(some 20), .mov (.const (.slice none 0 0)), none⟩])
 (.seq
 (.seq
 (.reg 0 [
 ⟨(some 82), .mov (.tmp 15), none⟩,
 ⟨(some 83), .nilc (.tmp 82), none⟩,
 ⟨(some 84), .fld 2 (.tmp 83), none⟩,
 ⟨(some 85), .load none (.tmp 84), none⟩,
 ⟨(some 86), .len (.tmp 85), none⟩,
 ⟨(some 87), .mov (.const (.int .i64 0)), none⟩])
 (.block 0
 (.loop c18l0)))
 (.seq
 (.reg 0 [
 ⟨(some 110), .mov (.tmp 15), none⟩,
 ⟨(some 111), .mov (.tmp 20), none⟩,
 ⟨(some 112), .nilc (.tmp 110), none⟩,
 ⟨(some 113), .fld 2 (.tmp 112), none⟩,
 ⟨none, .store 1 (.tmp 113) (.tmp 111), none⟩])
 (.frz [20] (.seq
 (.tree 0
 (.take 0 [2, 6, 7, 8] ⟨(some 114), .mov (.tmp 17), none⟩
 (.take 1 [2, 6, 7, 8] ⟨(some 115), .mov (.tmp 18), none⟩
 (.take 3 [4, 5, 6, 7, 8] ⟨(some 117), .mov (.tmp 15), none⟩
 (.take 4 [5, 6, 7, 8] ⟨(some 118), .nilc (.tmp 117), none⟩
 (.take 5 [6, 7, 8] ⟨(some 119), .load (some 3) (.tmp 118), none⟩
 (.alt 2 ⟨(some 116), .call 43 [(.tmp 114), (.tmp 115)], none⟩ true
 (.alt 6 ⟨(some 120), .call 57 [(.tmp 119)], none⟩ false
 (.alt 7 ⟨(some 121), .call 56 [(.tmp 116), (.tmp 120)], none⟩ false
 (.take 8 [] ⟨(some 23), .mov (.tmp 121), none⟩
 .done)
 .none)
 .none)
 .none)))))))
 (.seq
 (.seq
 (.reg 0 [
 ⟨(some 122), .fld 0 (.tmp 4), none⟩,
 ⟨(some 123), .load none (.tmp 122), none⟩,
 ⟨(some 124), .mov (.tmp 23), none⟩,
 ⟨(some 125), .len (.tmp 124), none⟩,
 ⟨(some 126), .bin .sub true (.const (.int .i64 1152921504606846976)) (.tmp 125), none⟩,
 ⟨(some 127), .bin .gtr false (.tmp 123) (.tmp 126), none⟩])
 (.cond (.tmp 127)
 (.seq
 (.reg 0 [
 ⟨(some 128), .load (some 2) (.tmp 4), none⟩,
 ⟨none, .store 2 (.tmp 8) (.tmp 128), none⟩,
 ⟨(some 9), .mov (.const (.slice none 0 0)), none⟩,
 ⟨(some 10), .mov (.const (.slice none 0 0)), none⟩,
 ⟨(some 11), .mov (.const (.int .i64 2)), none⟩])
 .ret)
 .skip))
 (.seq
 (.reg 0 [
 ⟨(some 129), .mov (.tmp 15), none⟩,
 ⟨(some 130), .mov (.tmp 23), none⟩,
 ⟨(some 131), .call 47 [(.tmp 14), (.tmp 129), (.tmp 130)], none⟩,
 ⟨(some 24), .mov (.tmp 131), none⟩])
 (.seq
 (.reg 0 [
 ⟨(some 132), .mov (.tmp 12), none⟩,
 ⟨(some 133), .call 53 [(.tmp 14), (.tmp 132)], none⟩])
 (.seq
 (.reg 0 [
 ⟨(some 134), .load (some 2) (.tmp 14), none⟩,
 ⟨(some 135), .mov (.tmp 19), none⟩,
 ⟨(some 136), .mov (.tmp 24), none⟩,
 ⟨none, .store 2 (.tmp 8) (.tmp 134), none⟩,
 ⟨(some 9), .mov (.tmp 135), none⟩,
 ⟨(some 10), .mov (.tmp 136), none⟩,
 ⟨(some 11), .mov (.const (.int .i64 0)), none⟩])
 .ret))))))))))))))))))))
def c20f : LCode :=
 (.seq
 (.reg 2 [
 ⟨(some 3), .box 0 (.tmp 0), none⟩,
 ⟨(some 6), .alloc 1 (.agg #[.int .i64 0, .slice none 0 0]), none⟩,
 ⟨(some 7), .mov (.const (.slice none 0 0)), none⟩,
 ⟨(some 8), .mov (.const (.slice none 0 0)), none⟩,
 ⟨(some 9), .mov (.const (.int .i64 0)), none⟩])
 (.seq
 (.reg 0 [
 ⟨(some 19), .load (some 2) (.tmp 3), none⟩,
 ⟨(some 20), .mov (.tmp 1), none⟩,
 ⟨(some 21), .call 38 [(.tmp 19), (.tmp 20)], none⟩,
 ⟨(some 18), .mov (.tmp 21), none⟩,
 ⟨(some 22), .ext (.tmp 18) 0, none⟩,
 ⟨(some 23), .ext (.tmp 18) 1, none⟩,
 ⟨(some 10), .mov (.tmp 22), none⟩,
 ⟨(some 11), .mov (.tmp 23), none⟩])
 (.seq
 (.seq
 (.reg 0 [
 ⟨(some 24), .mov (.tmp 11), none⟩,
 ⟨(some 25), .not (.tmp 24), none⟩,
 ⟨(some 26), .mov (.tmp 25), none⟩,
 ⟨(some 27), .fld 1 (.tmp 3), (some (26, false))⟩,
 ⟨(some 28), .load none (.tmp 27), (some (26, false))⟩,
 ⟨(some 29), .mov (.tmp 10), (some (26, false))⟩,
 ⟨(some 30), .idx 3 (.tmp 28) (.tmp 29), (some (26, false))⟩,
 ⟨(some 31), .load (some 3) (.tmp 30), (some (26, false))⟩,
 ⟨(some 32), .mov (.tmp 2), (some (26, false))⟩,
 ⟨(some 33), .call 54 [(.tmp 31), (.tmp 32)], (some (26, false))⟩,
 ⟨(some 34), .bin .lss false (.tmp 33) (.const (.int .i64 0)), (some (26, false))⟩,
 ⟨(some 35), .pick (.tmp 26) (.const (.bool true)) (.tmp 34), none⟩])
 (.cond (.tmp 35)
 (.seq
 (.reg 0 [
 ⟨(some 36), .load (some 2) (.tmp 3), none⟩,
 ⟨none, .store 2 (.tmp 6) (.tmp 36), none⟩,
 ⟨(some 7), .mov (.const (.slice none 0 0)), none⟩,
 ⟨(some 8), .mov (.const (.slice none 0 0)), none⟩,
 ⟨(some 9), .mov (.const (.int .i64 5)), none⟩])
 .ret)
 .skip))
 (.seq
 (.reg 1 [
 ⟨(some 38), .load (some 2) (.tmp 3), none⟩,
 ⟨(some 39), .mov (.tmp 10), none⟩,
 ⟨(some 40), .call 41 [(.tmp 38), (.tmp 39)], none⟩,
 ⟨(some 37), .mov (.tmp 40), none⟩,
 ⟨(some 41), .ext (.tmp 37) 0, none⟩,
 ⟨(some 42), .ext (.tmp 37) 1, none⟩,
 ⟨(some 12), .alloc 0 (.agg #[.int .i64 0, .slice none 0 0]), none⟩,
 ⟨none, .store 2 (.tmp 12) (.tmp 41), none⟩,
 ⟨(some 13), .mov (.tmp 42), none⟩])
 (.seq
 (.reg 0 [
 ⟨(some 43), .mov (.tmp 13), none⟩,
 ⟨(some 44), .nilc (.tmp 43), none⟩,
 ⟨(some 45), .load (some 3) (.tmp 44), none⟩,
 ⟨(some 46), .mov (.tmp 2), none⟩,
 ⟨(some 47), .call 54 [(.tmp 45), (.tmp 46)], none⟩,
 ⟨(some 14), .mov (.tmp 47), none⟩])
 (.seq
 (.reg 1 [
 ⟨(some 48), .mov (.tmp 13), none⟩,
 ⟨(some 49), .nilc (.tmp 48), none⟩,
 ⟨(some 50), .fld 1 (.tmp 49), none⟩,
 ⟨(some 51), .load none (.tmp 50), none⟩,
 ⟨(some 52), .mov (.tmp 14), none⟩,
 ⟨(some 53), .idx 3 (.tmp 51) (.tmp 52), none⟩,
 ⟨(some 54), .fld 1 (.tmp 53), none⟩,
 ⟨(some 55), .load (some 2) (.tmp 54), none⟩,
 ⟨(some 15), .alloc 0 (.agg #[.int .i64 0, .int .i64 0]), none⟩,
 ⟨none, .store 2 (.tmp 15) (.tmp 55), none⟩])
 (.seq
 (.reg 0 [
 ⟨(some 56), .mov (.tmp 13), none⟩,
 ⟨(some 57), .mov (.tmp 13), none⟩,
 ⟨(some 58), .nilc (.tmp 57), none⟩,
 ⟨(some 59), .fld 1 (.tmp 58), none⟩,
 ⟨(some 60), .load none (.tmp 59), none⟩,
 ⟨(some 61), .mov (.tmp 14), none⟩,
 ⟨(some 62), .mov (.tmp 14), none⟩,
 ⟨(some 63), .bin .add true (.tmp 62) (.const (.int .i64 1)), none⟩,
 ⟨(some 64), .call 55 [(.tmp 60), (.tmp 61), (.tmp 63)], none⟩,
 ⟨(some 65), .nilc (.tmp 56), none⟩,
 ⟨(some 66), .fld 1 (.tmp 65), none⟩,
 ⟨none, .store 1 (.tmp 66) (.tmp 64), none⟩])
 (.seq
 (.reg 1 [
 ⟨(some 16), .alloc 0 (.slice none 0 0), none⟩])
 (.seq
 (.reg 0 [
 ⟨(some 67), .mov (.tmp 13), none⟩,
 ⟨(some 68), .mov (.tmp 13), none⟩,
 ⟨(some 69), .nilc (.tmp 68), none⟩,
 ⟨(some 70), .fld 2 (.tmp 69), none⟩,
 ⟨(some 71), .load none (.tmp 70), none⟩,
 ⟨(some 72), .fn 63 [(.tmp 15), (.tmp 16)], none⟩,
 ⟨(some 73), .call 62 [(.tmp 71), (.tmp 72)], none⟩,
 ⟨(some 74), .nilc (.tmp 67), none⟩,
 ⟨(some 75), .fld 2 (.tmp 74), none⟩,
 ⟨none, .store 1 (.tmp 75) (.tmp 73), none⟩])
 (.frz [73] (.seq
 (.reg 0 [
 ⟨(some 76), .mov (.tmp 10), none⟩,
 ⟨(some 77), .call 53 [(.tmp 12), (.tmp 76)], none⟩,
 ⟨(some 17), .mov (.tmp 77), none⟩])
 (.seq
 (.tree 0
 (.take 0 [3, 4, 5, 6] ⟨(some 78), .load (some 2) (.tmp 12), none⟩
 (.take 1 [4, 5, 6] ⟨(some 79), .load none (.tmp 16), none⟩
 (.take 2 [5, 6] ⟨(some 80), .mov (.tmp 17), none⟩
 (.alt 3 ⟨none, .store 2 (.tmp 6) (.tmp 78), none⟩ true
 (.take 4 [5, 6] ⟨(some 7), .mov (.tmp 79), none⟩
 (.take 5 [6] ⟨(some 8), .mov (.tmp 80), none⟩
 (.take 6 [] ⟨(some 9), .mov (.const (.int .i64 0)), none⟩
 .done)))
 .none)))))
 .ret))))))))))))
def c50f : LCode :=
 (.seq
 (.reg 3 [
 ⟨(some 2), .box 0 (.tmp 0), none⟩,
 ⟨(some 3), .box 1 (.tmp 1), none⟩,
 ⟨(some 4), .alloc 2 (.agg #[.int .i64 0, .slice none 0 0, .slice none 0 0, .slice none 0 0, .slice none 0 0, .int .i64 0]), none⟩])
 (.seq
 (.reg 1 [
 ⟨(some 12), .build [.int .i64 0, .slice none 0 0, .slice none 0 0, .slice none 0 0, .slice none 0 0, .int .i64 0] [], none⟩,
 ⟨(some 5), .alloc 0 (.agg #[.int .i64 0, .slice none 0 0, .slice none 0 0, .slice none 0 0, .slice none 0 0, .int .i64 0]), none⟩,
 ⟨none, .store 6 (.tmp 5) (.tmp 12), none⟩])
 (.seq
 (.reg 0 [
 ⟨(some 13), .load (some 3) (.tmp 3), none⟩,
 ⟨(some 14), .call 61 [(.tmp 13)], none⟩,
 ⟨(some 6), .mov (.tmp 14), none⟩])
 (.seq
 (.reg 0 [
 ⟨(some 7), .mov (.const (.slice none 0 0)), none⟩])
 (.seq
 (.seq
 (.reg 0 [
 ⟨(some 8), .mov (.const (.int .i64 0)), none⟩])
 (.block 0
 (.loop c50l0)))
 (.frz [7] (.seq
 (.reg 0 [
 ⟨(some 49), .mov (.tmp 7), none⟩,
 ⟨(some 50), .fld 1 (.tmp 3), none⟩,
 ⟨none, .store 1 (.tmp 50) (.tmp 49), none⟩])
 (.seq
 (.reg 0 [
 ⟨(some 51), .fld 2 (.tmp 3), none⟩,
 ⟨(some 52), .load none (.tmp 51), none⟩,
 ⟨(some 53), .len (.tmp 52), none⟩,
 ⟨(some 54), .bin .eql false (.tmp 53) (.const (.int .i64 0)), none⟩,
 ⟨(some 9), .mov (.tmp 54), none⟩])
 (.seq
 (.reg 0 [
 ⟨(some 10), .mov (.const (.slice none 0 0)), none⟩])
 (.seq
 (.seq
 (.reg 0 [
 ⟨(some 11), .mov (.const (.int .i64 0)), none⟩])
 (.block 2
 (.loop c50l1)))
 (.seq
 (.seq
 (.reg 0 [
 ⟨(some 96), .mov (.tmp 9), none⟩,
 ⟨(some 97), .not (.tmp 96), none⟩])
 (.cond (.tmp 97)
 (.reg 2 [
 ⟨(some 98), .mov (.tmp 10), none⟩,
 ⟨(some 99), .load (some 3) (.tmp 3), none⟩,
 ⟨(some 100), .litsf [99] 0 3 1 [.string ⟨#[]⟩, .slice none 0 0, .slice none 0 0] [(0, (.tmp 99))], none⟩,
 ⟨(some 101), .append 1 3 64 (.tmp 98) (.tmp 100), none⟩,
 ⟨(some 10), .mov (.tmp 101), none⟩])
 .skip))
 (.seq
 (.reg 0 [
 ⟨(some 102), .fld 0 (.tmp 2), none⟩,
 ⟨(some 103), .load none (.tmp 102), none⟩,
 ⟨(some 104), .mov (.tmp 10), none⟩,
 ⟨(some 105), .build [.int .i64 0, .slice none 0 0] [(0, 1, (.tmp 103)), (1, 1, (.tmp 104))], none⟩,
 ⟨(some 106), .fld 0 (.tmp 5), none⟩,
 ⟨none, .store 2 (.tmp 106) (.tmp 105), none⟩])
 (.seq
 (.reg 0 [
 ⟨(some 107), .load (some 6) (.tmp 5), none⟩,
 ⟨none, .store 6 (.tmp 4) (.tmp 107), none⟩])
 .ret)))))))))))))
def c19f : LCode :=
 (.seq
 (.reg 2 [
 ⟨(some 4), .box 0 (.tmp 0), none⟩,
 ⟨(some 8), .alloc 1 (.agg #[.int .i64 0, .slice none 0 0, .slice none 0 0, .slice none 0 0, .slice none 0 0, .int .i64 0]), none⟩])
 (.seq
 (.reg 0 [
 ⟨(some 23), .load (some 2) (.tmp 4), none⟩,
 ⟨(some 24), .mov (.tmp 1), none⟩,
 ⟨(some 25), .call 28 [(.tmp 23), (.tmp 24)], none⟩,
 ⟨(some 9), .mov (.tmp 25), none⟩])
 (.seq
 (.seq
 (.reg 0 [
 ⟨(some 26), .mov (.tmp 9), none⟩,
 ⟨(some 27), .bin .lss false (.tmp 26) (.const (.int .i64 0)), none⟩,
 ⟨(some 28), .mov (.tmp 27), none⟩,
 ⟨(some 29), .fld 1 (.tmp 4), (some (28, false))⟩,
 ⟨(some 30), .load none (.tmp 29), (some (28, false))⟩,
 ⟨(some 31), .mov (.tmp 9), (some (28, false))⟩,
 ⟨(some 32), .idx 3 (.tmp 30) (.tmp 31), (some (28, false))⟩,
 ⟨(some 33), .load (some 3) (.tmp 32), (some (28, false))⟩,
 ⟨(some 34), .mov (.tmp 2), (some (28, false))⟩,
 ⟨(some 35), .call 58 [(.tmp 33), (.tmp 34)], (some (28, false))⟩,
 ⟨(some 36), .bin .lss false (.tmp 35) (.const (.int .i64 0)), (some (28, false))⟩,
 ⟨(some 37), .pick (.tmp 28) (.const (.bool true)) (.tmp 36), none⟩])
 (.cond (.tmp 37)
 (.seq
 (.reg 0 [
 ⟨(some 38), .load (some 2) (.tmp 4), none⟩,
 ⟨(some 39), .build [.int .i64 0, .slice none 0 0, .slice none 0 0, .slice none 0 0, .slice none 0 0, .int .i64 0] [(0, 2, (.tmp 38)), (5, 1, (.const (.int .i64 5)))], none⟩,
 ⟨none, .store 6 (.tmp 8) (.tmp 39), none⟩])
 .ret)
 .skip))
 (.seq
 (.reg 0 [
 ⟨(some 40), .mov (.tmp 3), none⟩,
 ⟨(some 41), .call 22 [(.tmp 40)], none⟩,
 ⟨(some 10), .mov (.tmp 41), none⟩])
 (.seq
 (.seq
 (.reg 0 [
 ⟨(some 42), .mov (.tmp 10), none⟩,
 ⟨(some 43), .not (.tmp 42), none⟩])
 (.cond (.tmp 43)
 (.seq
 (.reg 0 [
 ⟨(some 44), .load (some 2) (.tmp 4), none⟩,
 ⟨(some 45), .build [.int .i64 0, .slice none 0 0, .slice none 0 0, .slice none 0 0, .slice none 0 0, .int .i64 0] [(0, 2, (.tmp 44)), (5, 1, (.const (.int .i64 1)))], none⟩,
 ⟨none, .store 6 (.tmp 8) (.tmp 45), none⟩])
 .ret)
 .skip))
 (.seq
 (.reg 1 [
 ⟨(some 46), .fld 1 (.tmp 4), none⟩,
 ⟨(some 47), .load none (.tmp 46), none⟩,
 ⟨(some 48), .mov (.tmp 9), none⟩,
 ⟨(some 49), .idx 3 (.tmp 47) (.tmp 48), none⟩,
 ⟨(some 50), .load (some 3) (.tmp 49), none⟩,
 ⟨(some 11), .alloc 0 (.agg #[.string ⟨#[]⟩, .slice none 0 0, .slice none 0 0]), none⟩,
 ⟨none, .store 3 (.tmp 11) (.tmp 50), none⟩])
 (.seq
 (.reg 0 [
 ⟨(some 51), .load (some 3) (.tmp 11), none⟩,
 ⟨(some 52), .mov (.tmp 2), none⟩,
 ⟨(some 53), .call 58 [(.tmp 51), (.tmp 52)], none⟩,
 ⟨(some 12), .mov (.tmp 53), none⟩])
 (.seq
 (.reg 1 [
 ⟨(some 54), .fld 1 (.tmp 11), none⟩,
 ⟨(some 55), .load none (.tmp 54), none⟩,
 ⟨(some 56), .mov (.tmp 12), none⟩,
 ⟨(some 57), .idx 3 (.tmp 55) (.tmp 56), none⟩,
 ⟨(some 58), .fld 1 (.tmp 57), none⟩,
 ⟨(some 59), .load (some 2) (.tmp 58), none⟩,
 ⟨(some 60), .lits 0 2 1 [.int .i64 0, .int .i64 0] [(0, (.tmp 59))], none⟩,
 ⟨(some 13), .mov (.tmp 60), none⟩])
 (.frz [13] (.seq
 (.reg 0 [
 ⟨(some 61), .load (some 3) (.tmp 11), none⟩,
 ⟨(some 62), .mov (.tmp 12), none⟩,
 ⟨(some 63), .call 59 [(.tmp 61), (.tmp 62)], none⟩,
 ⟨none, .store 3 (.tmp 11) (.tmp 63), none⟩])
 (.seq
 (.reg 0 [
 ⟨(some 64), .mov (.tmp 13), none⟩,
 ⟨(some 65), .mov (.tmp 3), none⟩,
 ⟨(some 66), .call 60 [(.tmp 64), (.tmp 65)], none⟩,
 ⟨(some 14), .mov (.tmp 66), none⟩])
 (.seq
 (.reg 0 [
 ⟨(some 15), .mov (.const (.slice none 0 0)), none⟩])
 (.seq
 (.reg 0 [
 ⟨(some 16), .mov (.const (.slice none 0 0)), none⟩])
 (.seq
 (.seq
 (.reg 0 [
 ⟨(some 17), .mov (.const (.int .i64 0)), none⟩])
 (.block 0
 (.loop c19l0)))
 (.frz [16] (.seq
 (.reg 0 [
 ⟨(some 105), .mov (.tmp 16), none⟩,
 ⟨(some 106), .fld 2 (.tmp 11), none⟩,
 ⟨none, .store 1 (.tmp 106) (.tmp 105), none⟩])
 (.seq
 (.tree 0
 (.take 0 [2, 4, 5, 6] ⟨(some 107), .mov (.tmp 13), none⟩
 (.take 1 [2, 4, 5, 6] ⟨(some 108), .mov (.tmp 14), none⟩
 (.take 3 [4, 5, 6] ⟨(some 110), .load (some 3) (.tmp 11), none⟩
 (.alt 2 ⟨(some 109), .call 48 [(.tmp 107), (.tmp 108)], none⟩ true
 (.alt 4 ⟨(some 111), .call 61 [(.tmp 110)], none⟩ false
 (.alt 5 ⟨(some 112), .call 60 [(.tmp 109), (.tmp 111)], none⟩ false
 (.take 6 [] ⟨(some 19), .mov (.tmp 112), none⟩
 .done)
 .none)
 .none)
 .none)))))
 (.seq
 (.seq
 (.reg 0 [
 ⟨(some 113), .fld 0 (.tmp 4), none⟩,
 ⟨(some 114), .load none (.tmp 113), none⟩,
 ⟨(some 115), .mov (.tmp 19), none⟩,
 ⟨(some 116), .len (.tmp 115), none⟩,
 ⟨(some 117), .bin .sub true (.const (.int .i64 1152921504606846976)) (.tmp 116), none⟩,
 ⟨(some 118), .bin .gtr false (.tmp 114) (.tmp 117), none⟩])
 (.cond (.tmp 118)
 (.seq
 (.reg 0 [
 ⟨(some 119), .load (some 2) (.tmp 4), none⟩,
 ⟨(some 120), .build [.int .i64 0, .slice none 0 0, .slice none 0 0, .slice none 0 0, .slice none 0 0, .int .i64 0] [(0, 2, (.tmp 119)), (5, 1, (.const (.int .i64 2)))], none⟩,
 ⟨none, .store 6 (.tmp 8) (.tmp 120), none⟩])
 .ret)
 .skip))
 (.seq
 (.reg 0 [
 ⟨(some 122), .load (some 3) (.tmp 11), none⟩,
 ⟨(some 123), .mov (.tmp 19), none⟩,
 ⟨(some 124), .fld 0 (.tmp 4), none⟩,
 ⟨(some 125), .load none (.tmp 124), none⟩,
 ⟨(some 126), .call 49 [(.tmp 122), (.tmp 123), (.tmp 125)], none⟩,
 ⟨(some 121), .mov (.tmp 126), none⟩,
 ⟨(some 127), .ext (.tmp 121) 0, none⟩,
 ⟨(some 128), .ext (.tmp 121) 1, none⟩,
 ⟨(some 129), .ext (.tmp 121) 2, none⟩,
 ⟨none, .store 3 (.tmp 11) (.tmp 127), none⟩,
 ⟨(some 20), .mov (.tmp 128), none⟩,
 ⟨(some 21), .mov (.tmp 129), none⟩])
 (.seq
 (.reg 1 [
 ⟨(some 130), .mov (.tmp 21), none⟩,
 ⟨(some 131), .fld 1 (.tmp 4), none⟩,
 ⟨(some 132), .load none (.tmp 131), none⟩,
 ⟨(some 133), .build [.int .i64 0, .slice none 0 0] [(0, 1, (.tmp 130)), (1, 1, (.tmp 132))], none⟩,
 ⟨(some 134), .load (some 3) (.tmp 11), none⟩,
 ⟨(some 135), .call 50 [(.tmp 133), (.tmp 134)], none⟩,
 ⟨(some 22), .alloc 0 (.agg #[.int .i64 0, .slice none 0 0, .slice none 0 0, .slice none 0 0, .slice none 0 0, .int .i64 0]), none⟩,
 ⟨none, .store 6 (.tmp 22) (.tmp 135), none⟩])
 (.seq
 (.reg 0 [
 ⟨(some 136), .mov (.tmp 15), none⟩,
 ⟨(some 137), .fld 2 (.tmp 22), none⟩,
 ⟨none, .store 1 (.tmp 137) (.tmp 136), none⟩])
 (.seq
 (.reg 0 [
 ⟨(some 138), .mov (.tmp 20), none⟩,
 ⟨(some 139), .fld 3 (.tmp 22), none⟩,
 ⟨none, .store 1 (.tmp 139) (.tmp 138), none⟩])
 (.seq
 (.reg 0 [
 ⟨(some 140), .load (some 6) (.tmp 22), none⟩,
 ⟨none, .store 6 (.tmp 8) (.tmp 140), none⟩])
 .ret)))))))))))))))))))))))
def c21f : LCode :=
 (.seq
 (.reg 2 [
 ⟨(some 3), .box 0 (.tmp 0), none⟩,
 ⟨(some 6), .alloc 1 (.agg #[.int .i64 0, .slice none 0 0, .slice none 0 0, .slice none 0 0, .slice none 0 0, .int .i64 0]), none⟩])
 (.seq
 (.reg 0 [
 ⟨(some 15), .load (some 2) (.tmp 3), none⟩,
 ⟨(some 16), .mov (.tmp 1), none⟩,
 ⟨(some 17), .call 28 [(.tmp 15), (.tmp 16)], none⟩,
 ⟨(some 7), .mov (.tmp 17), none⟩])
 (.seq
 (.seq
 (.reg 0 [
 ⟨(some 18), .mov (.tmp 7), none⟩,
 ⟨(some 19), .bin .lss false (.tmp 18) (.const (.int .i64 0)), none⟩,
 ⟨(some 20), .mov (.tmp 19), none⟩,
 ⟨(some 21), .fld 1 (.tmp 3), (some (20, false))⟩,
 ⟨(some 22), .load none (.tmp 21), (some (20, false))⟩,
 ⟨(some 23), .mov (.tmp 7), (some (20, false))⟩,
 ⟨(some 24), .idx 3 (.tmp 22) (.tmp 23), (some (20, false))⟩,
 ⟨(some 25), .load (some 3) (.tmp 24), (some (20, false))⟩,
 ⟨(some 26), .mov (.tmp 2), (some (20, false))⟩,
 ⟨(some 27), .call 58 [(.tmp 25), (.tmp 26)], (some (20, false))⟩,
 ⟨(some 28), .bin .lss false (.tmp 27) (.const (.int .i64 0)), (some (20, false))⟩,
 ⟨(some 29), .pick (.tmp 20) (.const (.bool true)) (.tmp 28), none⟩])
 (.cond (.tmp 29)
 (.seq
 (.reg 0 [
 ⟨(some 30), .load (some 2) (.tmp 3), none⟩,
 ⟨(some 31), .build [.int .i64 0, .slice none 0 0, .slice none 0 0, .slice none 0 0, .slice none 0 0, .int .i64 0] [(0, 2, (.tmp 30)), (5, 1, (.const (.int .i64 5)))], none⟩,
 ⟨none, .store 6 (.tmp 6) (.tmp 31), none⟩])
 .ret)
 .skip))
 (.seq
 (.reg 1 [
 ⟨(some 32), .fld 1 (.tmp 3), none⟩,
 ⟨(some 33), .load none (.tmp 32), none⟩,
 ⟨(some 34), .mov (.tmp 7), none⟩,
 ⟨(some 35), .idx 3 (.tmp 33) (.tmp 34), none⟩,
 ⟨(some 36), .load (some 3) (.tmp 35), none⟩,
 ⟨(some 8), .alloc 0 (.agg #[.string ⟨#[]⟩, .slice none 0 0, .slice none 0 0]), none⟩,
 ⟨none, .store 3 (.tmp 8) (.tmp 36), none⟩])
 (.seq
 (.reg 0 [
 ⟨(some 37), .load (some 3) (.tmp 8), none⟩,
 ⟨(some 38), .mov (.tmp 2), none⟩,
 ⟨(some 39), .call 58 [(.tmp 37), (.tmp 38)], none⟩,
 ⟨(some 9), .mov (.tmp 39), none⟩])
 (.seq
 (.reg 1 [
 ⟨(some 40), .fld 1 (.tmp 8), none⟩,
 ⟨(some 41), .load none (.tmp 40), none⟩,
 ⟨(some 42), .mov (.tmp 9), none⟩,
 ⟨(some 43), .idx 3 (.tmp 41) (.tmp 42), none⟩,
 ⟨(some 44), .fld 1 (.tmp 43), none⟩,
 ⟨(some 45), .load (some 2) (.tmp 44), none⟩,
 ⟨(some 10), .alloc 0 (.agg #[.int .i64 0, .int .i64 0]), none⟩,
 ⟨none, .store 2 (.tmp 10) (.tmp 45), none⟩])
 (.seq
 (.reg 0 [
 ⟨(some 46), .load (some 3) (.tmp 8), none⟩,
 ⟨(some 47), .mov (.tmp 9), none⟩,
 ⟨(some 48), .call 59 [(.tmp 46), (.tmp 47)], none⟩,
 ⟨none, .store 3 (.tmp 8) (.tmp 48), none⟩])
 (.seq
 (.reg 0 [
 ⟨(some 11), .mov (.const (.slice none 0 0)), none⟩])
 (.seq
 (.reg 0 [
 ⟨(some 12), .mov (.const (.slice none 0 0)), none⟩])
 (.seq
 (.seq
 (.reg 0 [
 ⟨(some 13), .mov (.const (.int .i64 0)), none⟩])
 (.block 0
 (.loop c21l0)))
 (.frz [12] (.seq
 (.reg 0 [
 ⟨(some 81), .mov (.tmp 12), none⟩,
 ⟨(some 82), .fld 2 (.tmp 8), none⟩,
 ⟨none, .store 1 (.tmp 82) (.tmp 81), none⟩])
 (.seq
 (.reg 1 [
 ⟨(some 83), .load (some 2) (.tmp 3), none⟩,
 ⟨(some 84), .load (some 3) (.tmp 8), none⟩,
 ⟨(some 85), .call 50 [(.tmp 83), (.tmp 84)], none⟩,
 ⟨(some 14), .alloc 0 (.agg #[.int .i64 0, .slice none 0 0, .slice none 0 0, .slice none 0 0, .slice none 0 0, .int .i64 0]), none⟩,
 ⟨none, .store 6 (.tmp 14) (.tmp 85), none⟩])
 (.seq
 (.reg 0 [
 ⟨(some 86), .mov (.tmp 11), none⟩,
 ⟨(some 87), .fld 2 (.tmp 14), none⟩,
 ⟨none, .store 1 (.tmp 87) (.tmp 86), none⟩])
 (.seq
 (.reg 0 [
 ⟨(some 88), .load (some 6) (.tmp 14), none⟩,
 ⟨none, .store 6 (.tmp 6) (.tmp 88), none⟩])
 .ret)))))))))))))))
theorem lw10f : rlF Tryz.prog 10 c10f = some (c10f, [.cell 8 (some 2), .tmp 9, .tmp 10], 112) := by kernel_rfl
theorem lw15f : rlF Tryz.prog 15 c15f = some (c15f, [.cell 6 (some 2), .tmp 7, .tmp 8], 58) := by kernel_rfl
theorem lw18f : rlF Tryz.prog 18 c18f = some (c18f, [.cell 8 (some 2), .tmp 9, .tmp 10, .tmp 11], 137) := by kernel_rfl
theorem lw20f : rlF Tryz.prog 20 c20f = some (c20f, [.cell 6 (some 2), .tmp 7, .tmp 8, .tmp 9], 81) := by kernel_rfl
theorem lw50f : rlF Tryz.prog 50 c50f = some (c50f, [.cell 4 (some 6)], 108) := by kernel_rfl
theorem lw19f : rlF Tryz.prog 19 c19f = some (c19f, [.cell 8 (some 6)], 141) := by kernel_rfl
theorem lw21f : rlF Tryz.prog 21 c21f = some (c21f, [.cell 6 (some 6)], 89) := by kernel_rfl
end Go.Fx.J
namespace Go.Fx.J
open Go Go.Fx Go.Proofs Go.Fx.R
set_option maxRecDepth 20000
def mAt (j : Jns) (k : Nat) : Mis := j.l.getD k ⟨[], [], []⟩
theorem mAt_eq {j : Jns} {k : Nat} (h : k < j.l.length) : mAt j k = j.l[k] := by
 unfold mAt
 rw [uH, uI h]; rfl
def leaveP (j : Jns) (key : S) (who : Int) : (Jns × List Int) × Int :=
 if j.l.any (eqM key) = false then ((j, []), 5)
 else if (mAt j (posN (ltM key) j.l)).wt.any (eqW who) = false then ((j, []), 5)
 else ((⟨j.last, cleanL j.l (posN (ltM key) j.l) key (mAt j (posN (ltM key) j.l)).fl (lessL (mAt j (posN (ltM key) j.l)).wt (posN (ltW who) (mAt j (posN (ltM key) j.l)).wt))⟩,
  cleanO key (mAt j (posN (ltM key) j.l)).fl (lessL (mAt j (posN (ltM key) j.l)).wt (posN (ltW who) (mAt j (posN (ltM key) j.l)).wt))), 0)
theorem rowsM_put {l : List Mis} {k : Nat} {key : S} {f w f' w' : V} : (rowsM l k key f w).set k [sv key, f', w'] = rowsM l k key f' w' := by
 rw [rowsM_set]; rfl
theorem rowsM_frz {l : List Mis} {k j sz : Nat} {els : List (List V)} {key : S} {f w : V} : (rowsM l k key f w).map (frzL j sz els) = rowsM l k key (frzV j sz els f) (frzV j sz els w) := by
 unfold rowsM
 rw [vC, List.map_map]
 rfl
theorem vd_vs {l : List Sp} (h : Vs l) : Vd l := ⟨h.1, fun s hs => by have := h.2 s hs; have := h.1.1 s hs; omega⟩
theorem vs_need {key : S} {fl : List Fet} {wt : List Wai} (h : ∀ w ∈ wt, Vs w.need) : Vs (needed ⟨key, fl, wt⟩) := vs_of sep_ofS fun x hx => by
 obtain ⟨w, hw, hx⟩ := in_needed.1 hx
 exact (h w hw).in hx
theorem vs_one {s : Sp} (h : 0 ≤ s.1 ∧ s.1 < s.2 ∧ s.2 ≤ 1099511627776) : Vs [s] := ⟨⟨by simp; omega, by simp⟩, by simp; omega⟩
theorem mem_less {α : Type} {l : List α} {k : Nat} {x : α} (h : x ∈ lessL l k) : x ∈ l := by
 rcases yS.1 h with h | h
 ·exact List.mem_of_mem_take h
 ·exact List.mem_of_mem_drop h
theorem posW_any {l : List Wai} {k : Int} (ho : l.Pairwise fun a b => a.id < b.id) (h : l.any (eqW k) = true) : posN (ltW k) l < l.length := by
 obtain ⟨m, hm, he⟩ := vU.1 h
 unfold posN
 rcases yN (l.filter (ltW k)).length l.length with h | h
 ·exact h
 ·have : (l.filter (ltW k)) = l := List.filter_sublist.eq_of_length_le h
  rw [← this] at hm
  have := (vV.1 hm).2
  unfold eqW at he
  unfold ltW at this
  simp at he this
  omega
theorem ok15 (j : Jns) (key : S) (who : Int) (hj : JOk j) (hf : ∀ m ∈ j.l, m.fl.length ≤ 1099511627776) :
  Ok 15 [.agg j.enc, sv key, .i who] (Is (.tup [.agg (leaveP j key who).1.1.enc, ints (leaveP j key who).1.2, .i (leaveP j key who).2])) := by
 refine okN_gv ?_
 refine ok_of lw15f (by simp) ?_
 unfold c15f
 have hp : ∀ x y, leaveP j key who = (x, y) → (leaveP j key who).1 = x ∧ (leaveP j key who).2 = y := fun x y h => by rw [h]; exact ⟨rfl, rfl⟩
 simp -implicitDefEqProofs only [rX,↓rY,ofConst,cells?,↓reduceIte,Nat.reduceEqDiff,Nat.reduceAdd,reduceCtorEq,freshP,cxN,yB,yA,args0]
 refine call_is (ok38 (.i j.last) j.l key hj.o (by have := hj.n; omega)) (by simp [lendsOk, lendOk, lends, lend, wkL, wk, wkR, wkB]) rfl trivial ?_
 cases h1 : j.l.any (eqM key) with
 | false =>
  obtain ⟨e1, e2⟩ := hp (j, []) 5 (by unfold leaveP; rw [if_pos h1])
  rw [e1, e2]
  simp -implicitDefEqProofs only [rX,↓rY,ofConst,cells?,splice,↓reduceIte,Nat.reduceEqDiff,Nat.reduceAdd,isC,yC,yB,yA]
  refine ret_data ?_
  simp -implicitDefEqProofs only [rX,↓rY,↓reduceIte,Nat.reduceEqDiff,Nat.reduceAdd,resP,tupV,wfV,wfL,yB,yA]
  simp [Gv, tupV, gvV, gvL, wk, wkL, wkR, wfV, wfL]
 | true =>
  obtain ⟨hk, hkey⟩ := posN_any hj.o h1
  have hm := hj.m _ (yK hk)
  have hfl := hf _ (yK hk)
  have hat := mAt_eq hk
  have hl : leaveP j key who = if j.l[posN (ltM key) j.l].wt.any (eqW who) = false then ((j, []), 5) else ((⟨j.last, cleanL j.l (posN (ltM key) j.l) key j.l[posN (ltM key) j.l].fl (lessL j.l[posN (ltM key) j.l].wt (posN (ltW who) j.l[posN (ltM key) j.l].wt))⟩, cleanO key j.l[posN (ltM key) j.l].fl (lessL j.l[posN (ltM key) j.l].wt (posN (ltW who) j.l[posN (ltM key) j.l].wt))), 0) := by
   unfold leaveP
   rw [if_neg (by rw [h1]; simp), hat]
  generalize posN (ltM key) j.l = k at *
  simp -implicitDefEqProofs only [rX,↓rY,↓reduceIte,Nat.reduceEqDiff,Nat.reduceAdd,reduceCtorEq,ms_len,ms_t,yA]
  have hn := hj.n
  have hwn := hm.n
  refine ⟨⟨by omega, by omega⟩, hk, ?_⟩
  refine call_is (ok42 (sv j.l[k].key) .any j.l[k].wt who hm.wo (by omega)) (by simp [lendsOk, lendOk, lends, lend, wkL, wk, wkR, wkB, Mis.enc]) rfl trivial ?_
  cases h2 : j.l[k].wt.any (eqW who) with
  | false =>
   obtain ⟨e1, e2⟩ := hp (j, []) 5 (by rw [hl, if_pos h2])
   rw [e1, e2]
   simp -implicitDefEqProofs only [rX,↓rY,ofConst,cells?,splice,↓reduceIte,Nat.reduceEqDiff,Nat.reduceAdd,isC,yC,yB,yA]
   refine ret_data ?_
   simp -implicitDefEqProofs only [rX,↓rY,↓reduceIte,Nat.reduceEqDiff,Nat.reduceAdd,resP,tupV,wfV,wfL,yB,yA]
   simp [Gv, tupV, gvV, gvL, wk, wkL, wkR, wfV, wfL]
  | true =>
   have hi := posW_any hm.wo h2
   rw [if_neg (by rw [h2]; simp)] at hl
   generalize posN (ltW who) j.l[k].wt = i at *
   simp -implicitDefEqProofs only [rX,↓rY,↓reduceIte,Nat.reduceEqDiff,Nat.reduceAdd,yB,yA]
   refine call_isA [.agg [.i j.last, .bro 3 (j.l.map Mis.enc)], .i k] _ (.tup [.agg [.i j.last, .sl 5 0 j.l.length], .ptr 5 k 0]) _ [.dead, .dead, .arv 3 (rowsM j.l k j.l[k].key (.sl 6 0 j.l[k].fl.length) (.sl 7 0 j.l[k].wt.length)), .arr 3 (j.l[k].fl.map Fet.enc), .arr 2 (j.l[k].wt.map Wai.enc)] (ok41 j k hk (by omega) fun m hm => ⟨yP (hf m hm) (by omega), yP (hj.m m hm).n (by omega)⟩) (by simp [lendsOk, lendOk, lends, lend, wkL, wk, wkB, wkR]) rfl (by simp only [yF, yH, renB, rowsM_ren]; rfl) trivial ?_
   have hk2 : k < (rowsM j.l k j.l[k].key (.sl 6 0 j.l[k].fl.length) (.sl 7 0 j.l[k].wt.length)).length := by rw [rowsM_len]; exact hk
   simp -implicitDefEqProofs only [rX,↓rY,ofConst,cells?,splice,↓reduceIte,Nat.reduceEqDiff,Nat.reduceAdd,freshP,isC,yC,yA]
   refine ⟨hk2, ?_⟩
   rw [rowsM_at hk2]
   have hll : j.l[k].wt.length - 1 = (lessL j.l[k].wt i).length := by unfold lessL; simp; omega
   simp -implicitDefEqProofs only [rX,↓rY,yM]
   refine ⟨by simp only [lo, Fx.hi]; omega, ?_⟩
   refine call_isMA [7] [] [] [.sl 0 0 j.l[k].wt.length, .i i, .i ((i : Int) + 1)] (.sl 0 0 (j.l[k].wt.length - 1)) (.sl 7 0 (lessL j.l[k].wt i).length) _ _ [.var j.enc, .var [.v (.int .i64 0), .v (.slice none 0 0)], .var [.i j.last, .sl 5 0 j.l.length], .dead, .dead, .arv 3 (rowsM j.l k j.l[k].key (.sl 6 0 j.l[k].fl.length) (.sl 7 0 j.l[k].wt.length)), .arr 3 (j.l[k].fl.map Fet.enc), .arr 2 ((lessL j.l[k].wt i).map Wai.enc)] _ (ok52 j.l[k].wt i hi) (by simp) (by simp) rfl (by simp [lendsOk, lendOk, lends, lend, wkL, wk, pos]) (by simp only [yF, yH, renB, killB, rowsM_kill]; rfl) (by rw [← hll]; rfl) rfl trivial ?_
   simp -implicitDefEqProofs only [rX,↓rY,cells?,splice,↓reduceIte,Nat.reduceEqDiff,Nat.reduceAdd,killE,kill,kills,St.kill,isC,ms_k,yC,yB,yA,rowsM_at hk2,rowsM_put]
   refine ⟨hk2, ?_⟩
   have ht : yE (lessL j.l[k].wt i).length ((lessL j.l[k].wt i).map Wai.enc) = (lessL j.l[k].wt i).map Wai.enc := yD (by simp)
   simp -implicitDefEqProofs only [rX,↓reduceIte,Nat.reduceEqDiff,Nat.reduceAdd,yA,↓frzP_n,↓frzP_c,↓frzQ_s,↓frz1_a,↓aw_frz,get_frzE,frzV,frzL,frzB,rowsM_frz,Nat.reduceEqDiff,ht,hkey]
   obtain ⟨e1, e2⟩ := hp _ _ hl
   rw [e1, e2]
   have hw : ∀ w ∈ lessL j.l[k].wt i, Vs w.need := fun w hw => (hm.w w (mem_less hw)).1
   generalize lessL j.l[k].wt i = wt at *
   refine call_isMA [2, 5, 6] [2] [6] [.ptr 0 0 0, .i k] (ints (cleanO key j.l[k].fl wt)) (ints (cleanO key j.l[k].fl wt)) _ _ [.var [.i j.last, miss j.l], .var [.v (.int .i64 0), .v (.slice none 0 0)], .var [.i j.last, .sl 5 0 (cleanL j.l k key j.l[k].fl wt).length], .dead, .dead, .arr 3 ((cleanL j.l k key j.l[k].fl wt).map Mis.enc), .dead, .dead] _ (ok53 j.last j.l k hk key j.l[k].fl wt (by omega) (by omega) (vd_vs (vs_need hw)) (fun f hf => vd_vs (vs_one (hm.f f hf).1)) fun w h => vd_vs (hw w h)) (by simp) (by simp) (by simp only [yF, yH, blk, vG, vH, renB, rowsM_ren]; rfl) (by simp [lendsOk, lendOk, lends, lend, wkL, wk, pos]) rfl rfl rfl trivial ?_
   generalize cleanL j.l k key j.l[k].fl wt = L'
   generalize cleanO key j.l[k].fl wt = O'
   have hL : yE L'.length (L'.map Mis.enc) = L'.map Mis.enc := yD (by simp)
   simp -implicitDefEqProofs only [rX,↓rY,ofConst,cells?,splice,↓reduceIte,Nat.reduceEqDiff,Nat.reduceAdd,resP,tupV,keepP,liveP,wfV,wfL,killE,kill,St.kill,isC,yC,yB,yA,get_frzE,get_killE,frzV,retP_eq]
   refine ⟨[.dead, .dead, .dead, .dead, .dead, .arr 3 (L'.map Mis.enc)], ⟨by simp [leH, leB], yV _, by simp, by simp [wfB]⟩, ?_⟩
   simp [Gv, tupV, gvV, gvL, wk, wkL, wkR, wfV, wfL, blk, hL]
end Go.Fx.J
namespace Go.Fx.J
open Go Go.Fx Go.Proofs Go.Fx.R
set_option maxRecDepth 20000
def fAt (m : Mis) (i : Nat) : Fet := m.fl.getD i ⟨0, (0, 0)⟩
theorem fAt_eq {m : Mis} {i : Nat} (h : i < m.fl.length) : fAt m i = m.fl[i] := by
 unfold fAt
 rw [uH, uI h]; rfl
def failM (L : List Mis) (last : Int) (k : Nat) (key : S) (m : Mis) (i : Nat) : Jns × List Int × List Int :=
 (⟨last, cleanL L k key (lessL m.fl i) (keptD (goW (fAt m i).sp) m.wt)⟩, outsD (goW (fAt m i).sp) Wai.id m.wt, cleanO key (lessL m.fl i) (keptD (goW (fAt m i).sp) m.wt))
def failP (j : Jns) (key : S) (id : Int) : (Jns × List Int × List Int) × Int :=
 if j.l.any (eqM key) = false then ((j, [], []), 5)
 else if (mAt j (posN (ltM key) j.l)).fl.any (eqF id) = false then ((j, [], []), 5)
 else (failM j.l j.last (posN (ltM key) j.l) key (mAt j (posN (ltM key) j.l)) ((mAt j (posN (ltM key) j.l)).fl.findIdx (eqF id)), 0)
theorem ok20 (j : Jns) (key : S) (id : Int) (hj : JOk j) (hf : ∀ m ∈ j.l, m.fl.length ≤ 1099511627776) :
  Ok 20 [.agg j.enc, sv key, .i id] (Is (.tup [.agg (failP j key id).1.1.enc, ints (failP j key id).1.2.1, ints (failP j key id).1.2.2, .i (failP j key id).2])) := by
 refine okN_gv ?_
 refine okN_ofG pol [] lw20f (by simp) trivial (by simp) (s0 := ⟨args0 0 [.agg j.enc, sv key, .i id], [.arr 1 []], 0⟩) ?_ ?_
 ·refine ⟨_, .virt 1 1 (by decide) (.refl _), ?_⟩
  simp -implicitDefEqProofs only [rX,↓reduceIte,Nat.reduceEqDiff,Nat.reduceAdd,reduceCtorEq,leE,leH,leB,keepP,wfE,wfB,wfV,wfL,args0,vF]
 unfold c20f
 have hp : ∀ x y, failP j key id = (x, y) → (failP j key id).1 = x ∧ (failP j key id).2 = y := fun x y h => by rw [h]; exact ⟨rfl, rfl⟩
 simp -implicitDefEqProofs only [rX,↓rY,ofConst,cells?,↓reduceIte,Nat.reduceEqDiff,Nat.reduceAdd,reduceCtorEq,freshP,cxN,yB,yA,args0]
 refine call_is (ok38 (.i j.last) j.l key hj.o (by have := hj.n; omega)) (by simp [lendsOk, lendOk, lends, lend, wkL, wk, wkR, wkB]) rfl trivial ?_
 cases h1 : j.l.any (eqM key) with
 | false =>
  obtain ⟨e1, e2⟩ := hp (j, [], []) 5 (by unfold failP; rw [if_pos h1])
  rw [e1, e2]
  simp -implicitDefEqProofs only [rX,↓rY,ofConst,cells?,splice,↓reduceIte,Nat.reduceEqDiff,Nat.reduceAdd,isC,yC,yB,yA]
  refine ret_data ?_
  simp -implicitDefEqProofs only [rX,↓rY,↓reduceIte,Nat.reduceEqDiff,Nat.reduceAdd,resP,tupV,wfV,wfL,yB,yA]
  simp [Gv, tupV, gvV, gvL, wk, wkL, wkR, wfV, wfL]
 | true =>
  obtain ⟨hk, hkey⟩ := posN_any hj.o h1
  have hm := hj.m _ (yK hk)
  have hfl := hf _ (yK hk)
  have hat := mAt_eq hk
  have hl : failP j key id = if j.l[posN (ltM key) j.l].fl.any (eqF id) = false then ((j, [], []), 5) else (failM j.l j.last (posN (ltM key) j.l) key j.l[posN (ltM key) j.l] (j.l[posN (ltM key) j.l].fl.findIdx (eqF id)), 0) := by
   unfold failP
   rw [if_neg (by rw [h1]; simp), hat]
  generalize posN (ltM key) j.l = k at *
  simp -implicitDefEqProofs only [rX,↓rY,↓reduceIte,Nat.reduceEqDiff,Nat.reduceAdd,reduceCtorEq,ms_len,ms_t,yA]
  have hn := hj.n
  have hwn := hm.n
  refine ⟨⟨by omega, by omega⟩, hk, ?_⟩
  refine call_is (ok54 (sv j.l[k].key) .any j.l[k].fl id) (by simp [lendsOk, lendOk, lends, lend, wkL, wk, wkR, wkB, Mis.enc]) rfl trivial ?_
  cases h2 : j.l[k].fl.any (eqF id) with
  | false =>
   obtain ⟨e1, e2⟩ := hp (j, [], []) 5 (by rw [hl, if_pos h2])
   rw [e1, e2]
   have hfi : fstI (eqF id) j.l[k].fl = -1 := by unfold fstI; rw [if_neg (by rw [h2]; simp)]
   have hlt : decide ((-1 : Int) < 0) = true := rfl
   simp -implicitDefEqProofs only [rX,↓rY,ofConst,cells?,splice,↓reduceIte,Nat.reduceEqDiff,Nat.reduceAdd,isC,yC,yB,yA,hfi,hlt]
   refine ret_data ?_
   simp -implicitDefEqProofs only [rX,↓rY,↓reduceIte,Nat.reduceEqDiff,Nat.reduceAdd,resP,tupV,wfV,wfL,yB,yA]
   simp [Gv, tupV, gvV, gvL, wk, wkL, wkR, wfV, wfL]
  | true =>
   have hi : j.l[k].fl.findIdx (eqF id) < j.l[k].fl.length := by
    obtain ⟨f, hf, he⟩ := vU.1 h2
    exact uJ.2 ⟨f, hf, he⟩
   have hfi : fstI (eqF id) j.l[k].fl = (j.l[k].fl.findIdx (eqF id) : Nat) := by unfold fstI; rw [if_pos h2]
   rw [if_neg (by rw [h2]; simp)] at hl
   rw [hfi]
   generalize j.l[k].fl.findIdx (eqF id) = i at *
   have hlt : decide ((i : Int) < 0) = false := decide_eq_false (by omega)
   simp -implicitDefEqProofs only [rX,↓rY,ofConst,cells?,splice,↓reduceIte,Nat.reduceEqDiff,Nat.reduceAdd,isC,yC,yB,yA,hlt]
   refine call_isA [.agg [.i j.last, .bro 3 (j.l.map Mis.enc)], .i k] _ (.tup [.agg [.i j.last, .sl 6 0 j.l.length], .ptr 6 k 0]) _ [.dead, .dead, .arv 3 (rowsM j.l k j.l[k].key (.sl 7 0 j.l[k].fl.length) (.sl 8 0 j.l[k].wt.length)), .arr 3 (j.l[k].fl.map Fet.enc), .arr 2 (j.l[k].wt.map Wai.enc)] (ok41 j k hk (by omega) fun m hm => ⟨yP (hf m hm) (by omega), yP (hj.m m hm).n (by omega)⟩) (by simp [lendsOk, lendOk, lends, lend, wkL, wk, wkB, wkR]) rfl (by simp only [yF, yH, renB, rowsM_ren]; rfl) trivial ?_
   have hk2 : k < (rowsM j.l k j.l[k].key (.sl 7 0 j.l[k].fl.length) (.sl 8 0 j.l[k].wt.length)).length := by rw [rowsM_len]; exact hk
   simp -implicitDefEqProofs only [rX,↓rY,ofConst,cells?,splice,↓reduceIte,Nat.reduceEqDiff,Nat.reduceAdd,reduceCtorEq,freshP,isC,yC,yA]
   refine ⟨hk2, ?_⟩
   rw [rowsM_at hk2]
   simp -implicitDefEqProofs only [rX,Nat.reduceAdd,yB,yA]
   have htf : yE j.l[k].fl.length (j.l[k].fl.map Fet.enc) = j.l[k].fl.map Fet.enc := yD (by simp)
   refine call_is (ok54 (sv j.l[k].key) .any j.l[k].fl id) (by simp [lendsOk, lendOk, lends, lend, wkL, wk, wkR, wkB, blk, htf]) rfl trivial ?_
   simp -implicitDefEqProofs only [rX,↓rY,ofConst,cells?,splice,↓reduceIte,Nat.reduceEqDiff,Nat.reduceAdd,freshP,yA,hfi]
   refine ⟨hk2, ?_⟩
   rw [rowsM_at hk2]
   simp -implicitDefEqProofs only [rX,↓rY,arrSz,Nat.reduceAdd,enS_len,enS_C,ft_len,ft_d1,yC,yA,yM]
   refine ⟨⟨by omega, by omega⟩, hi, ?_⟩
   have hlf : j.l[k].fl.length - 1 = (lessL j.l[k].fl i).length := by unfold lessL; simp; omega
   refine ⟨hk2, ?_⟩
   rw [rowsM_at hk2]
   simp -implicitDefEqProofs only [rX,↓rY,yM]
   refine ⟨by simp only [lo, Fx.hi]; omega, ?_⟩
   refine call_isMA [7] [] [] [.sl 0 0 j.l[k].fl.length, .i i, .i ((i : Int) + 1)] (.sl 0 0 (j.l[k].fl.length - 1)) (.sl 7 0 (lessL j.l[k].fl i).length) _ _ [.arr 1 [], .var j.enc, .var [.v (.int .i64 0), .v (.slice none 0 0)], .var [.i j.last, .sl 6 0 j.l.length], .dead, .dead, .arv 3 (rowsM j.l k j.l[k].key (.sl 7 0 j.l[k].fl.length) (.sl 8 0 j.l[k].wt.length)), .arr 3 ((lessL j.l[k].fl i).map Fet.enc), .arr 2 (j.l[k].wt.map Wai.enc), .var (enS j.l[k].fl[i].sp)] _ (ok55 j.l[k].fl i hi) (by simp) (by simp) rfl (by simp [lendsOk, lendOk, lends, lend, wkL, wk, pos]) (by simp only [yF, yH, renB, killB, rowsM_kill]; rfl) (by rw [← hlf]; rfl) rfl trivial ?_
   simp -implicitDefEqProofs only [rX,↓rY,ofConst,cells?,splice,↓reduceIte,Nat.reduceEqDiff,Nat.reduceAdd,freshP,killE,kill,kills,St.kill,isC,Nat.reduceLeDiff,enS_kill,ms_k,yC,yB,yA,rowsM_at hk2,rowsM_put]
   have hk3 : k < (rowsM j.l k j.l[k].key (.sl 7 0 (lessL j.l[k].fl i).length) (.sl 8 0 j.l[k].wt.length)).length := by rw [rowsM_len]; exact hk
   refine ⟨hk2, hk3, ?_⟩
   rw [rowsM_at hk3]
   simp -implicitDefEqProofs only [rX,↓rY,yM]
   have hsp := vd_vs (vs_one (hm.f _ (yK hi)).1)
   have hfa : fAt j.l[k] i = j.l[k].fl[i] := fAt_eq hi
   unfold failM at hl
   rw [hfa] at hl
   generalize j.l[k].fl[i].sp = sp at *
   have hlw : ∀ w ∈ keptD (goW sp) j.l[k].wt, w ∈ j.l[k].wt := fun w hw => (vV.1 hw).1
   refine call_isMA [9, 10, 0, 8] [2] [0] [.sl 3 0 j.l[k].wt.length, .clo 63 [.ptr 0 0 0, .ptr 1 0 0]] (.sl 3 0 (keptD (goW sp) j.l[k].wt).length) (.sl 8 0 (keptD (goW sp) j.l[k].wt).length) _ _ [.arr 1 ((outsD (goW sp) Wai.id j.l[k].wt).map encI), .var j.enc, .var [.v (.int .i64 0), .v (.slice none 0 0)], .var [.i j.last, .sl 6 0 j.l.length], .dead, .dead, .arv 3 (rowsM j.l k j.l[k].key (.sl 7 0 (lessL j.l[k].fl i).length) (.sl 8 0 j.l[k].wt.length)), .arr 3 ((lessL j.l[k].fl i).map Fet.enc), .arr 2 ((keptD (goW sp) j.l[k].wt).map Wai.enc), .var (enS sp), .var [.sl 0 0 (outsD (goW sp) Wai.id j.l[k].wt).length]] _ (ok62 j.l[k].wt sp (by omega) hsp fun w hw => vd_vs (hm.w w hw).1) (by simp) (by simp) rfl (by simp [lendsOk, lendOk, lends, lend, wkL, wk, pos]) (by unfold hD; simp only [yF, yH, renB, killB, rowsM_kill]; rfl) rfl rfl trivial ?_
   simp -implicitDefEqProofs only [rX,↓rY,cells?,splice,↓reduceIte,Nat.reduceEqDiff,Nat.reduceAdd,reduceCtorEq,killE,kill,kills,St.kill,isC,enS_kill,ms_k,yC,yB,yA,rowsM_at hk3,rowsM_put]
   refine ⟨hk3, ?_⟩
   have ht : yE (keptD (goW sp) j.l[k].wt).length ((keptD (goW sp) j.l[k].wt).map Wai.enc) = (keptD (goW sp) j.l[k].wt).map Wai.enc := yD (by simp)
   simp -implicitDefEqProofs only [rX,↓reduceIte,Nat.reduceEqDiff,Nat.reduceAdd,reduceCtorEq,yA,↓frzP_n,↓frzP_c,↓frzQ_s,↓frz1_a,↓aw_frz,get_frzE,frzV,frzL,frzB,rowsM_frz,Nat.reduceEqDiff,ht,hkey]
   obtain ⟨e1, e2⟩ := hp _ _ hl
   rw [e1, e2]
   have hw : ∀ w ∈ keptD (goW sp) j.l[k].wt, Vs w.need := fun w hw => (hm.w w (hlw w hw)).1
   have hfx : ∀ f ∈ lessL j.l[k].fl i, Vd [f.sp] := fun f hf => vd_vs (vs_one (hm.f f (mem_less hf)).1)
   have hll : (lessL j.l[k].fl i).length ≤ 1099511627776 := by omega
   clear hlf hk2 hk3 hfa ht hlw hl
   generalize keptD (goW sp) j.l[k].wt = wt at *
   generalize lessL j.l[k].fl i = fl at *
   generalize outsD (goW sp) Wai.id j.l[k].wt = G at *
   refine call_isMA [3, 6, 7] [2] [7] [.ptr 0 0 0, .i k] (ints (cleanO key fl wt)) (ints (cleanO key fl wt)) _ _ [.arr 1 (G.map encI), .var [.i j.last, miss j.l], .var [.v (.int .i64 0), .v (.slice none 0 0)], .var [.i j.last, .sl 6 0 (cleanL j.l k key fl wt).length], .dead, .dead, .arr 3 ((cleanL j.l k key fl wt).map Mis.enc), .dead, .dead, .var (enS sp), .var [.sl 0 0 G.length]] _ (ok53 j.last j.l k hk key fl wt (by omega) (by omega) (vd_vs (vs_need hw)) hfx fun w h => vd_vs (hw w h)) (by simp) (by simp) (by simp only [yF, yH, blk, vG, vH, renB, rowsM_ren]; rfl) (by simp [lendsOk, lendOk, lends, lend, wkL, wk, pos]) rfl rfl rfl trivial ?_
   generalize cleanL j.l k key fl wt = L'
   generalize cleanO key fl wt = O'
   have hL : yE L'.length (L'.map Mis.enc) = L'.map Mis.enc := yD (by simp)
   have hG : yE G.length (G.map encI) = G.map encI := yD (by simp)
   simp -implicitDefEqProofs only [rX,↓rY,rdK,ofConst,cells?,splice,↓reduceIte,Nat.reduceEqDiff,Nat.reduceAdd,resP,tupV,keepP,liveP,wfV,wfL,killE,kill,St.kill,isC,yC,yB,yA,get_frzE,get_killE,frzV,retP_eq]
   refine ⟨[.arr 1 (G.map encI), .dead, .dead, .dead, .dead, .dead, .arr 3 (L'.map Mis.enc)], ⟨by simp [leH, leB], yV _, by simp, by simp [wfB]⟩, ?_⟩
   simp [Gv, tupV, gvV, gvL, wk, wkL, wkR, wfV, wfL, blk, hL, hG]
end Go.Fx.J
namespace Go.Fx.J
open Go Go.Fx Go.Proofs Go.Fx.R
set_option maxRecDepth 20000
theorem nilRows_mid {a b : List (List V)} {x y : List V} (h : nilRow x y) : nilRows (a ++ x :: b) (a ++ y :: b) := by
 refine ⟨by simp, fun i p q hp hq => ?_⟩
 rcases Nat.lt_trichotomy i a.length with hi | hi | hi
 ·rw [List.getElem?_append_left hi] at hp hq
  rw [hp] at hq
  obtain rfl : p = q := by simpa using hq
  exact ⟨rfl, fun i x y h1 h2 => by rw [h1] at h2; exact .inl (by simpa using h2.symm)⟩
 ·subst hi
  rw [xA (vZ _), uA] at hp hq
  obtain rfl : x = p := by simpa using hp
  obtain rfl : y = q := by simpa using hq
  exact h
 ·rw [xA (by omega)] at hp hq
  obtain ⟨n, hn⟩ : ∃ n, i - a.length = n + 1 := ⟨i - a.length - 1, by omega⟩
  rw [hn, yM] at hp hq
  rw [hp] at hq
  obtain rfl : p = q := by simpa using hq
  exact ⟨rfl, fun i x y h1 h2 => by rw [h1] at h2; exact .inl (by simpa using h2.symm)⟩
theorem nil_new {key : S} : nilRow [sv key, .nil, .nil] [sv key, .sl 2 0 0, .sl 3 0 0] := by
 refine ⟨rfl, fun i x y h1 h2 => ?_⟩
 match i with
 | 0 => simp at h1 h2; exact .inl (by rw [← h1, ← h2])
 | 1 => simp at h1 h2; exact .inr ⟨h1.symm, 2, h2.symm⟩
 | 2 => simp at h1 h2; exact .inr ⟨h1.symm, 3, h2.symm⟩
 | n + 3 => simp at h1
theorem insT_map {α β : Type} {f : α → β} {l : List α} {i : Nat} {x : α} : (insT l i x).map f = insT (l.map f) i (f x) := by
 unfold insT
 rw [yI, yF, vN, vT]
theorem ok39n (l : List Mis) (i : Nat) (key : S) (hi : i ≤ l.length) (hn : l.length ≤ 1000000000000) :
  OkN Tryz.prog 39 [.sl 0 0 l.length, .i i, .sl 1 0 1] [.arr 3 (l.map Mis.enc), .arr 3 [[sv key, .nil, .nil]]] [0, 1] (IsA (.sl 0 0 (l.length + 1)) [.arr 3 ((insT l i ⟨key, [], []⟩).map Mis.enc), .dead]) := by
 have h := ok39 (l.map Mis.enc) i [sv key, .nil, .nil] (by simpa using hi) (by simpa using hn)
 rw [yX] at h
 refine ⟨h.1, Fn_ghostN [] (by simp; omega) (by simp) h.2 ?_⟩
 rintro r hs ⟨rfl, rfl⟩
 have hne : insT (l.map Mis.enc) i [sv key, .nil, .nil] ≠ [] := by unfold insT; simp
 have hr : (insT (l.map Mis.enc) i [sv key, .sl 2 0 0, .sl 3 0 0]).map (gvL (fun j => decide (j = 2) || decide (j = 3)) [.arv 3 (insT (l.map Mis.enc) i [sv key, .sl 2 0 0, .sl 3 0 0]), .dead, .arr 3 [], .arr 2 []]) = (insT l i ⟨key, [], []⟩).map Mis.enc := by
  simp only [insT, yI, yF, vN, vT, gv_rows]
  rfl
 have hg : St.give (fun j => decide (j = 2) || decide (j = 3)) ⟨[(0, .sl 0 0 (l.length + 1))], [.arv 3 (insT (l.map Mis.enc) i [sv key, .sl 2 0 0, .sl 3 0 0]), .dead, .arr 3 [], .arr 2 []], 0⟩ = ⟨[(0, .sl 0 0 (l.length + 1))], [.arv 3 ((insT l i ⟨key, [], []⟩).map Mis.enc), .dead, .dead, .dead], 0⟩ := by
  rw [← hr]
  rfl
 refine ⟨trivial, _, _, ⟨rfl, rfl⟩, by simp, _, .virt 1 3 (by decide) (.virt 1 2 (by decide) (.opn 0 3 _ rfl hne (.nilW 0 3 _ (insT (l.map Mis.enc) i [sv key, .sl 2 0 0, .sl 3 0 0]) rfl (nilRows_mid nil_new) (.give (fun j => decide (j = 2) || decide (j = 3)) (by simp) (.cls 0 3 ((insT l i ⟨key, [], []⟩).map Mis.enc) ?_ (fun e he => ?_) (.refl _)))))), ?_⟩
 ·change (St.give (fun j => decide (j = 2) || decide (j = 3)) ⟨[(0, .sl 0 0 (l.length + 1))], [.arv 3 (insT (l.map Mis.enc) i [sv key, .sl 2 0 0, .sl 3 0 0]), .dead, .arr 3 [], .arr 2 []], 0⟩).h[0]? = _
  rw [hg]; rfl
 ·obtain ⟨m, _, rfl⟩ := yQ.1 he; rfl
 ·change leS _ ⟨(St.give (fun j => decide (j = 2) || decide (j = 3)) ⟨[(0, .sl 0 0 (l.length + 1))], [.arv 3 (insT (l.map Mis.enc) i [sv key, .sl 2 0 0, .sl 3 0 0]), .dead, .arr 3 [], .arr 2 []], 0⟩).e, (St.give (fun j => decide (j = 2) || decide (j = 3)) ⟨[(0, .sl 0 0 (l.length + 1))], [.arv 3 (insT (l.map Mis.enc) i [sv key, .sl 2 0 0, .sl 3 0 0]), .dead, .arr 3 [], .arr 2 []], 0⟩).h.set 0 _, 0⟩ _
  rw [hg]
  simp -implicitDefEqProofs only [rX,↓reduceIte,leE,leH,leB,keepP,liveP,wfE,wfB,wfV]
end Go.Fx.J
namespace Go.Fx.J
open Go Go.Fx Go.Proofs Go.Fx.R
set_option maxRecDepth 20000
set_option maxHeartbeats 1000000
def askL (j : Jns) (key : S) : List Mis := if j.l.any (eqM key) = true then j.l else insT j.l (posN (ltM key) j.l) ⟨key, [], []⟩
def askM (L : List Mis) (last : Int) (k : Nat) (key : S) (m : Mis) (who : Int) (need : List Sp) : Jns × List Fet :=
 (⟨last + (minusS need (flown m)).length, L.set k ⟨key, (newF last (minusS need (flown m))).foldl insF m.fl, insT m.wt (posN (ltW who) m.wt) ⟨who, need⟩⟩⟩, newF last (minusS need (flown m)))
def askQ (j : Jns) (L : List Mis) (k : Nat) (key : S) (m : Mis) (who : Int) (need : List Sp) : (Jns × List Fet) × Int :=
 if m.wt.any (eqW who) = true then ((j, []), 6)
 else if 1000 ≤ m.wt.length ∨ 1152921504606846976 - ((minusS need (flown m)).length : Int) < j.last then ((j, []), 2)
 else (askM L j.last k key m who need, 0)
def askP (j : Jns) (key : S) (who : Int) (need : List Sp) : (Jns × List Fet) × Int :=
 if 4096 < key.length ∨ vd need = false ∨ need = [] then ((j, []), 1)
 else if j.l.any (eqM key) = false ∧ 1000 ≤ j.l.length then ((j, []), 2)
 else askQ j (askL j key) (posN (ltM key) j.l) key ((askL j key).getD (posN (ltM key) j.l) ⟨[], [], []⟩) who need
theorem ok41L (last : Int) (L : List Mis) (k : Nat) (hk : k < L.length) (hl : L.length ≤ 1000000) (hf : ∀ m ∈ L, m.fl.length ≤ 1099511627776 ∧ m.wt.length ≤ 1000000) : Ok 41 [.agg [.i last, .bro 3 (L.map Mis.enc)], .i k] (IsA (.tup [.agg [.i last, .sl 2 0 L.length], .ptr 2 k 0]) [.dead, .dead, .arv 3 (rowsM L k L[k].key (.sl 3 0 L[k].fl.length) (.sl 4 0 L[k].wt.length)), .arr 3 (L[k].fl.map Fet.enc), .arr 2 (L[k].wt.map Wai.enc)]) := ok41 ⟨last, L⟩ k hk hl hf
structure MW (m : Mis) : Prop where
 n : m.wt.length ≤ 1000
 fn : m.fl.length ≤ 1099511627776
 w : ∀ w ∈ m.wt, Vs w.need
 wo : m.wt.Pairwise fun a b => a.id < b.id
 f : ∀ f ∈ m.fl, 0 ≤ f.sp.1 ∧ f.sp.1 < f.sp.2 ∧ f.sp.2 ≤ 1099511627776
 fo : m.fl.Pairwise fun a b => a.sp.2 ≤ b.sp.1
theorem mw_of {last : Int} {m : Mis} (h : MOk last m) (hf : m.fl.length ≤ 1099511627776) : MW m := ⟨h.n, hf, fun w hw => (h.w w hw).1, h.wo, fun f hf => (h.f f hf).1, h.fo⟩
theorem mw_new {key : S} : MW ⟨key, [], []⟩ := ⟨by simp, by simp, by simp, by simp, by simp, by simp⟩
theorem MW.apt {m : Mis} (h : MW m) : Apt m.fl := apt_of (fun f hf => (h.f f hf).2.1) h.fo
theorem MW.asc {m : Mis} (h : MW m) : Asc1 m.fl := uT (fun {a b} ha hb hr => by have := (h.f a ha).2.1; omega) h.fo
theorem MW.vf {m : Mis} (h : MW m) : Vs (flown m) := vs_of sep_ofS fun x hx => by
 obtain ⟨f, hf, h1, h2⟩ := in_flown.1 hx
 have := h.f f hf
 omega
def GvG (y : V) (r : V) (hs : List Blk) : Prop := ∃ r' hs', Gv y r' hs' ∧ leG [] ⟨[(0, r)], hs, 0⟩ ⟨[(0, r')], hs', 0⟩
theorem okN_gvG {P : Program} {f : FuncId} {xs : List V} {y : V} (h : OkN P f xs [] [] (GvG y)) : OkN P f xs [] [] (Is y) := by
 refine okN_gv ⟨h.1, Fn_ghostN [] (by simp) (by simp) h.2 ?_⟩
 rintro r hs ⟨r', hs', h1, h2⟩
 exact ⟨trivial, r', hs', h1, yV _, h2⟩
theorem ret_gv {rs : List LRes} {y : V} {e : Env} {h : List Blk} {b : Nat} (hr : retP [] 0 rs (Gv y) ⟨e, h, b⟩) : retP [] 0 rs (GvG y) ⟨e, h, b⟩ := by
 rw [retP_eq] at hr ⊢
 refine resP_mono rs [] ?_ hr
 rintro xs ⟨p, h1, h2⟩
 exact ⟨p, h1, _, _, h2, _, .refl _, ⟨rfl, trivial⟩, leH_refl _, trivial, ⟨h1.2.2.2.1, trivial⟩, h1.2.2.2.2⟩
theorem ok10 (j : Jns) (key : S) (who : Int) (need : List Sp) (hj : JOk j) (hf : ∀ m ∈ j.l, m.fl.length ≤ 1099511627776) (hkl : key.length ≤ 5000) (hnl : need.length ≤ 1000) :
  Ok 10 [.agg j.enc, sv key, .i who, spans need] (Is (.tup [.agg (askP j key who need).1.1.enc, fets (askP j key who need).1.2, .i (askP j key who need).2])) := by
 refine okN_gvG ?_
 refine ok_of lw10f (by simp) ?_
 unfold c10f
 have hp : ∀ x y, askP j key who need = (x, y) → (askP j key who need).1 = x ∧ (askP j key who need).2 = y := fun x y h => by rw [h]; exact ⟨rfl, rfl⟩
 simp -implicitDefEqProofs only [rX,↓rY,ofConst,cells?,splice,↓reduceIte,Nat.reduceEqDiff,Nat.reduceAdd,reduceCtorEq,freshP,isC,cxN,sb_size,k_nil,yC,yB,yA,args0]
 cases h0 : decide ((4096 : Int) < (key.length : Int)) with
 | true =>
  obtain ⟨e1, e2⟩ := hp (j, []) 1 (by unfold askP; rw [if_pos (.inl (by have := of_decide_eq_true h0; omega))])
  rw [e1, e2]
  simp -implicitDefEqProofs only [↓rY]
  refine ret_gv (ret_data ?_)
  simp -implicitDefEqProofs only [rX,↓rY,↓reduceIte,Nat.reduceEqDiff,Nat.reduceAdd,resP,tupV,wfV,wfL,yB,yA]
  simp [Gv, tupV, gvV, gvL, wk, wkL, wkR, wfV, wfL]
 | false =>
  simp -implicitDefEqProofs only [↓rY]
  refine call_is (ok37 need) (by simp [lendsOk, lendOk, lends, lend, wkL, wk, wkR, wkB]) rfl trivial ?_
  cases h1 : vd need with
  | false =>
   obtain ⟨e1, e2⟩ := hp (j, []) 1 (by unfold askP; rw [if_pos (.inr (.inl h1))])
   rw [e1, e2]
   simp -implicitDefEqProofs only [rX,↓rY,ofConst,cells?,splice,↓reduceIte,Nat.reduceEqDiff,Nat.reduceAdd,isC,yC,yB,yA]
   refine ret_gv (ret_data ?_)
   simp -implicitDefEqProofs only [rX,↓rY,↓reduceIte,Nat.reduceEqDiff,Nat.reduceAdd,resP,tupV,wfV,wfL,yB,yA]
   simp [Gv, tupV, gvV, gvL, wk, wkL, wkR, wfV, wfL]
  | true =>
   by_cases h2 : need = []
   ·obtain ⟨e1, e2⟩ := hp (j, []) 1 (by unfold askP; rw [if_pos (.inr (.inr h2))])
    rw [e1, e2]
    have hz : ((need.length : Int) == 0) = true := by rw [h2]; rfl
    simp -implicitDefEqProofs only [rX,↓rY,ofConst,cells?,splice,↓reduceIte,Nat.reduceEqDiff,Nat.reduceAdd,reduceCtorEq,isC,yC,yB,yA,hz]
    intro _
    refine ret_gv (ret_data ?_)
    simp -implicitDefEqProofs only [rX,↓rY,↓reduceIte,Nat.reduceEqDiff,Nat.reduceAdd,resP,tupV,wfV,wfL,yB,yA]
    simp [Gv, tupV, gvV, gvL, wk, wkL, wkR, wfV, wfL]
   ·have hz : ((need.length : Int) == 0) = false := by
     cases need with
     | nil => exact absurd rfl h2
     | cons a l => simp; omega
    have h0' : ¬ 4096 < key.length := by have := of_decide_eq_false h0; omega
    have hQ : askP j key who need = if j.l.any (eqM key) = false ∧ 1000 ≤ j.l.length then ((j, []), 2) else askQ j (askL j key) (posN (ltM key) j.l) key ((askL j key).getD (posN (ltM key) j.l) ⟨[], [], []⟩) who need := by
     unfold askP
     rw [if_neg]
     rintro (h | h | h)
     ·exact h0' h
     ·rw [h1] at h; cases h
     ·exact h2 h
    have hn := hj.n
    simp -implicitDefEqProofs only [rX,↓rY,ofConst,cells?,splice,↓reduceIte,Nat.reduceEqDiff,Nat.reduceAdd,reduceCtorEq,isC,yC,yB,yA,hz]
    intro _
    refine call_is (ok38 (.i j.last) j.l key hj.o (by omega)) (by simp [lendsOk, lendOk, lends, lend, wkL, wk, wkR, wkB]) rfl trivial ?_
    cases h3 : j.l.any (eqM key) with
    | true =>
     rw [h3, if_neg (by simp)] at hQ
     obtain ⟨hk, hkey⟩ := posN_any hj.o h3
     have hm := hj.m _ (yK hk)
     have hfl := hf _ (yK hk)
     have haL : askL j key = j.l := if_pos h3
     rw [haL, uH, uI hk, Option.getD_some] at hQ
     have hlk : posN (ltM key) j.l < j.l.length := hk
     have hm' := mw_of hm hfl
     have h41 := ok41 j (posN (ltM key) j.l) hk (by omega) fun m hm => ⟨yP (hf m hm) (by omega), yP (hj.m m hm).n (by omega)⟩
     rw [hkey] at h41
     obtain ⟨L, hLe⟩ : ∃ L, L = j.l := ⟨_, rfl⟩
     generalize posN (ltM key) j.l = k at *
     generalize j.l[k] = m at *
     replace hm := hm'
     have htL : True := trivial
     have hmn := hm.n
     have hmf := hm.fn
     have hnL : j.l.length ≤ 1001 := by omega
     simp -implicitDefEqProofs only [rX,↓rY,ofConst,cells?,splice,↓reduceIte,Nat.reduceEqDiff,Nat.reduceAdd,freshP,isC,yC,yB,yA]
     refine call_isA [.agg [.i j.last, .bro 3 (j.l.map Mis.enc)], .i k] _ (.tup [.agg [.i j.last, .sl 5 0 j.l.length], .ptr 5 k 0]) _ [.dead, .dead, .arv 3 (rowsM j.l k key (.sl 6 0 m.fl.length) (.sl 7 0 m.wt.length)), .arr 3 (m.fl.map Fet.enc), .arr 2 (m.wt.map Wai.enc)] h41 (by simp [lendsOk, lendOk, lends, lend, wkL, wk, wkB, wkR, blk, htL]) rfl (by simp only [yF, yH, renB, rowsM_ren]; rfl) trivial ?_
     have hk2 : k < (rowsM j.l k key (.sl 6 0 m.fl.length) (.sl 7 0 m.wt.length)).length := by rw [rowsM_len]; exact hk
     simp -implicitDefEqProofs only [rX,↓rY,cells?,splice,↓reduceIte,Nat.reduceEqDiff,Nat.reduceAdd,reduceCtorEq,isC,yC,yA]
     refine ⟨hk2, ?_⟩
     rw [rowsM_at hk2]
     simp -implicitDefEqProofs only [rX,Nat.reduceAdd,yB,yA]
     have htf : yE m.fl.length (m.fl.map Fet.enc) = m.fl.map Fet.enc := yD (by simp)
     have htw : yE m.wt.length (m.wt.map Wai.enc) = m.wt.map Wai.enc := yD (by simp)
     refine call_is (ok42 (sv key) .any m.wt who hm.wo (by omega)) (by simp [lendsOk, lendOk, lends, lend, wkL, wk, wkR, wkB, blk, htw]) rfl trivial ?_
     cases h5 : m.wt.any (eqW who) with
     | true =>
      obtain ⟨e1, e2⟩ := hp (j, []) 6 (by rw [hQ]; unfold askQ; rw [if_pos h5])
      rw [e1, e2]
      simp -implicitDefEqProofs only [rX,↓rY,ofConst,cells?,splice,↓reduceIte,Nat.reduceEqDiff,Nat.reduceAdd,isC,yC,yB,yA]
      refine ret_gv (ret_data ?_)
      simp -implicitDefEqProofs only [rX,↓rY,↓reduceIte,Nat.reduceEqDiff,Nat.reduceAdd,resP,tupV,wfV,wfL,yB,yA]
      simp [Gv, tupV, gvV, gvL, wk, wkL, wkR, wfV, wfL]
     | false =>
      simp -implicitDefEqProofs only [rX,↓rY,↓reduceIte,Nat.reduceEqDiff,Nat.reduceAdd,reduceCtorEq]
      refine ⟨hk2, ?_⟩
      rw [rowsM_at hk2]
      simp -implicitDefEqProofs only [rX,Nat.reduceAdd,yB,yA]
      refine call_is (ok44 (sv key) .any m.fl fun f hf => by have := hm.f f hf; unfold Bs; omega) (by simp [lendsOk, lendOk, lends, lend, wkL, wk, wkR, wkB, blk, htf]) rfl trivial ?_
      simp -implicitDefEqProofs only [rX,↓reduceIte,Nat.reduceEqDiff]
      refine call_is (ok43 need (flown m) (vd_iff.1 h1) (vd_vs hm.vf)) (by simp [lendsOk, lendOk, lends, lend, wkL, wk, wkR, wkB, flown]) rfl trivial ?_
      simp -implicitDefEqProofs only [rX,↓rY,rdK,ofConst,cells?,splice,↓reduceIte,Nat.reduceEqDiff,Nat.reduceAdd,reduceCtorEq,isC,yC,yB,yA]
      refine ⟨hk2, ?_⟩
      rw [rowsM_at hk2]
      simp -implicitDefEqProofs only [rX,↓rY,yA,yM]
      unfold askQ at hQ
      rw [if_neg (by rw [h5]; simp)] at hQ
      cases h6 : decide ((1000 : Int) ≤ (m.wt.length : Int)) with
      | true =>
       obtain ⟨e1, e2⟩ := hp (j, []) 2 (by rw [hQ, if_pos (.inl (by have := of_decide_eq_true h6; omega))])
       rw [e1, e2]
       simp -implicitDefEqProofs only [↓rY]
       intro _
       refine ret_gv (ret_data ?_)
       simp -implicitDefEqProofs only [rX,↓rY,↓reduceIte,Nat.reduceEqDiff,Nat.reduceAdd,resP,tupV,wfV,wfL,yB,yA]
       simp [Gv, tupV, gvV, gvL, wk, wkL, wkR, wfV, wfL]
      | false =>
       have hML : Vd (minusS need (flown m)) := vd_vs (Vs.minus (vs_vd.2 (vd_iff.1 h1)))
       have hMn := hML.len
       have hjl := hj.lo
       simp -implicitDefEqProofs only [↓rY]
       intro _ _
       refine ⟨by simp only [lo, Fx.hi]; omega, ?_⟩
       cases h7 : decide ((1152921504606846976 : Int) - ((minusS need (flown m)).length : Int) < j.last) with
       | true =>
        obtain ⟨e1, e2⟩ := hp (j, []) 2 (by rw [hQ, if_pos (.inr (of_decide_eq_true h7))])
        rw [e1, e2]
        simp -implicitDefEqProofs only [↓rY]
        refine ret_gv (ret_data ?_)
        simp -implicitDefEqProofs only [rX,↓rY,↓reduceIte,Nat.reduceEqDiff,Nat.reduceAdd,resP,tupV,wfV,wfL,yB,yA]
        simp [Gv, tupV, gvV, gvL, wk, wkL, wkR, wfV, wfL]
       | false =>
        have h6' := of_decide_eq_false h6
        have h7' := of_decide_eq_false h7
        rw [if_neg fun h => h.elim (fun h => by omega) h7'] at hQ
        simp -implicitDefEqProofs only [↓rY]
        refine ⟨hk2, ?_⟩
        rw [rowsM_at hk2]
        simp -implicitDefEqProofs only [rX,↓rY,yM]
        refine call_is (ok46 need (by omega)) (by simp [lendsOk, lendOk, lends, lend, wkL, wk, wkR, wkB]) rfl trivial ?_
        simp -implicitDefEqProofs only [rX,↓rY,cells?,splice,↓reduceIte,Nat.reduceEqDiff,Nat.reduceAdd,freshP,buildP,litsP,isD,Nat.reduceLT,Nat.reduceLeDiff,yC,yB,yA,↓op_litsf,↓frzP_n,↓frzP_c,↓frzQ_r]
        have h45 := ok45 (m.wt.map Wai.enc) (posN (ltW who) m.wt) [.i who, spans need] (by rw [yX]; exact posN_le) (by rw [yX]; omega)
        rw [yX, show [V.i who, spans need] = Wai.enc ⟨who, need⟩ from rfl, ← insT_map] at h45
        have hWl : m.wt.length + 1 = (insT m.wt (posN (ltW who) m.wt) ⟨who, need⟩).length := insT_len.symm
        rw [hWl] at h45
        unfold askM at hQ
        generalize insT m.wt (posN (ltW who) m.wt) ⟨who, need⟩ = wt' at *
        refine call_isMA [7, 8] [0, 1] [7, 8] [.sl 0 0 m.wt.length, .i (posN (ltW who) m.wt), .sl 1 0 1] (.sl 0 0 wt'.length) (.sl 7 0 wt'.length) _ _ [.var j.enc, .var [.v (.int .i64 0), .v (.slice none 0 0)], .var [.i j.last, .sl 5 0 j.l.length], .dead, .dead, .arv 3 (rowsM j.l k key (.sl 6 0 m.fl.length) .any), .arr 3 (m.fl.map Fet.enc), .arr 2 (wt'.map Wai.enc), .dead] _ h45 (by simp) (by simp) rfl (by simp [lendsOk, lendOk, lends, lend, wkL, wk, pos]) (by simp only [yF, yH, renB, killB, rowsM_kill]; rfl) rfl rfl trivial ?_
        have hk3 : k < (rowsM j.l k key (.sl 6 0 m.fl.length) .any).length := by rw [rowsM_len]; exact hk
        simp -implicitDefEqProofs only [rX,↓rY,cells?,splice,↓reduceIte,Nat.reduceEqDiff,Nat.reduceAdd,reduceCtorEq,killE,kill,kills,St.kill,isC,yC,yB,yA,rowsM_at hk3,rowsM_put]
        refine ⟨hk3, ?_⟩
        have ht : yE wt'.length (wt'.map Wai.enc) = wt'.map Wai.enc := yD (by simp)
        simp -implicitDefEqProofs only [rX,↓reduceIte,Nat.reduceEqDiff,Nat.reduceAdd,yA,↓frzP_n,↓frzP_c,↓frzQ_s,↓frz1_a,↓aw_frz,get_frzE,frzV,frzL,frzB,rowsM_frz,Nat.reduceEqDiff,ht]
        have hA : Apt (m.fl ++ newF j.last (minusS need (flown m))) := apt_new hm.apt hML.1 fun x hx => (in_minusS.1 hx).2
        have h47 := ok47 j.last j.l.length j.l k hk key m.fl wt' (minusS need (flown m)) (by omega) (by omega) hmf hA hm.asc
        obtain ⟨e1, e2⟩ := hp _ _ hQ
        rw [e1, e2]
        have hFL : m.fl.length + (minusS need (flown m)).length = ((newF j.last (minusS need (flown m))).foldl insF m.fl).length := by rw [insFs_perm.length_eq, yG, newF_len]
        generalize minusS need (flown m) = l at *
        generalize (newF j.last l).foldl insF m.fl = fl' at *
        have hFl : m.fl.length + l.length = fl'.length := hFL
        refine call_isMA [2, 5, 6] [2] [6] [.ptr 0 0 0, .ptr 1 k 0, spans l] (fets (newF j.last l)) (fets (newF j.last l)) _ _ [.var j.enc, .var [.v (.int .i64 0), .v (.slice none 0 0)], .var [.i (j.last + l.length), .sl 5 0 j.l.length], .dead, .dead, .arv 3 (rowsM j.l k key (.sl 6 0 (m.fl.length + l.length)) (wais wt')), .arr 3 (fl'.map Fet.enc), .dead, .dead] _ h47 (by simp) (by simp) (by simp only [yF, yH, blk, vG, vH, renB, rowsM_ren]; rfl) (by simp [lendsOk, lendOk, lends, lend, wkL, wk, wkR, pos]) (by simp only [yF, yH, renB, killB, rowsM_kill, rowsM_ren]; rfl) rfl rfl trivial ?_
        simp -implicitDefEqProofs only [rX,↓rY,ofConst,cells?,splice,↓reduceIte,Nat.reduceEqDiff,Nat.reduceAdd,resP,tupV,keepP,liveP,wfV,wfL,killE,kill,St.kill,isC,yC,yB,yA,get_frzE,get_killE,frzV,retP_eq]
        have hr : (j.l.set k ⟨key, fl', wt'⟩).map Mis.enc = rowsM j.l k key (fets fl') (wais wt') := by
         unfold rowsM
         rw [vC]
         rfl
        have hf2 : yE fl'.length (fl'.map Fet.enc) = fl'.map Fet.enc := yD (by simp)
        have hL2 : yE j.l.length ((j.l.set k ⟨key, fl', wt'⟩).map Mis.enc) = (j.l.set k ⟨key, fl', wt'⟩).map Mis.enc := yD (by simp)
        have hL3 := hL2
        rw [vC] at hL3
        have hg : St.give (fun j => j == 6) ⟨[(0, .tup [.agg [.i (j.last + l.length), .sl 5 0 j.l.length], fets (newF j.last l), .v (.int .i64 0)])], [.dead, .dead, .dead, .dead, .dead, .arv 3 (rowsM j.l k key (.sl 6 0 (m.fl.length + l.length)) (wais wt')), .arr 3 (fl'.map Fet.enc)], 0⟩ = ⟨[(0, .tup [.agg [.i (j.last + l.length), .sl 5 0 j.l.length], fets (newF j.last l), .v (.int .i64 0)])], [.dead, .dead, .dead, .dead, .dead, .arv 3 ((j.l.set k ⟨key, fl', wt'⟩).map Mis.enc), .dead], 0⟩ := by
         rw [hr, hFl]
         simp [St.give, gvE, gvH, gvB, gvL, gvV, rowsM_gv, blk, hf2]
        refine ⟨[.dead, .dead, .dead, .dead, .dead, .arv 3 (rowsM j.l k key (.sl 6 0 (m.fl.length + l.length)) (wais wt')), .arr 3 (fl'.map Fet.enc)], ⟨by simp [leH, leB], yV _, by simp, ?_⟩, ?_⟩
        ·simp -implicitDefEqProofs only [rX,wfB]
         exact wf_rows (by simp [wfV, liveP]) trivial
        ·refine ⟨.tup [.agg [.i (j.last + l.length), .sl 5 0 j.l.length], fets (newF j.last l), .v (.int .i64 0)], [.dead, .dead, .dead, .dead, .dead, .arr 3 ((j.l.set k ⟨key, fl', wt'⟩).map Mis.enc), .dead], ?_, _, .give (fun j => j == 6) (by simp) (.cls 5 3 ((j.l.set k ⟨key, fl', wt'⟩).map Mis.enc) ?_ (fun e he => ?_) (.refl _)), ?_⟩
         ·simp [Gv, tupV, gvV, gvL, wk, wkL, wkR, blk, hL3]
         ·rw [hg]; rfl
         ·obtain ⟨m, _, rfl⟩ := yQ.1 he; rfl
         ·rw [hg]
          simp -implicitDefEqProofs only [rX,↓reduceIte,leE,leH,leB,keepP,liveP,wfE,wfB,wfV,wfL]
    | false =>
     cases h4 : decide ((1000 : Int) ≤ (j.l.length : Int)) with
     | true =>
      obtain ⟨e1, e2⟩ := hp (j, []) 2 (by rw [hQ, if_pos ⟨h3, by have := of_decide_eq_true h4; omega⟩])
      rw [e1, e2]
      simp -implicitDefEqProofs only [rX,↓rY,ofConst,cells?,splice,↓reduceIte,Nat.reduceEqDiff,Nat.reduceAdd,freshP,isC,yC,yB,yA,h4]
      intro _
      refine ret_gv (ret_data ?_)
      simp -implicitDefEqProofs only [rX,↓rY,↓reduceIte,Nat.reduceEqDiff,Nat.reduceAdd,resP,tupV,wfV,wfL,yB,yA]
      simp [Gv, tupV, gvV, gvL, wk, wkL, wkR, wfV, wfL]
     | false =>
      have h4' : ¬ 1000 ≤ j.l.length := by have := of_decide_eq_false h4; omega
      rw [if_neg (fun h => h4' h.2)] at hQ
      simp -implicitDefEqProofs only [rX,↓rY,ofConst,cells?,splice,↓reduceIte,Nat.reduceEqDiff,Nat.reduceAdd,freshP,isC,yC,yB,yA,h4]
      intro _
      have hkL : posN (ltM key) j.l ≤ j.l.length := posN_le
      have haL : askL j key = insT j.l (posN (ltM key) j.l) ⟨key, [], []⟩ := if_neg (by rw [h3]; simp)
      have hk : posN (ltM key) j.l < (insT j.l (posN (ltM key) j.l) ⟨key, [], []⟩).length := by rw [insT_len]; omega
      have hat : (insT j.l (posN (ltM key) j.l) ⟨key, [], []⟩)[posN (ltM key) j.l] = ⟨key, [], []⟩ := by
       simp [insT, List.getElem_append, hkL]
      rw [haL, uH, uI hk, Option.getD_some, hat] at hQ
      have h39 := ok39n j.l (posN (ltM key) j.l) key hkL (by omega)
      have h41 := ok41L j.last (insT j.l (posN (ltM key) j.l) ⟨key, [], []⟩) (posN (ltM key) j.l) hk (by simp only [insT_len]; omega) fun m hm => by
       rcases insT_mem.1 hm with rfl | hm
       ·simp
       ·exact ⟨yP (hf m hm) (by omega), yP (hj.m m hm).n (by omega)⟩
      rw [hat] at h41
      have hLn : (insT j.l (posN (ltM key) j.l) ⟨key, [], []⟩).length = j.l.length + 1 := insT_len
      have hm : MW ⟨key, [], []⟩ := mw_new
      have hmk : (⟨key, [], []⟩ : Mis).key = key := rfl
      generalize posN (ltM key) j.l = k at *
      generalize insT j.l k ⟨key, [], []⟩ = L at *
      generalize (⟨key, [], []⟩ : Mis) = m at *
      rw [hmk] at h41
      have hmn := hm.n
      have hmf := hm.fn
      have htL : yE L.length (L.map Mis.enc) = L.map Mis.enc := yD (by simp)
      rw [← hLn] at h39
      refine call_isA [.bro 3 (j.l.map Mis.enc)] (.sl 0 0 j.l.length) (.sl 4 0 j.l.length) [.arr 3 (j.l.map Mis.enc)] [.arr 3 (j.l.map Mis.enc)] (ok40 j.l (by omega)) (by simp [lendsOk, lendOk, lends, lend, wkL, wk, wkB, wkR]) rfl rfl trivial ?_
      simp -implicitDefEqProofs only [rX,↓rY,cells?,splice,↓reduceIte,Nat.reduceEqDiff,Nat.reduceAdd,reduceCtorEq,freshP,buildP,litsP,isD,Nat.reduceLT,Nat.reduceLeDiff,yC,yA]
      refine call_isMA [4, 3] [0, 1] [4, 3] [.sl 0 0 j.l.length, .i k, .sl 1 0 1] (.sl 0 0 L.length) (.sl 4 0 L.length) _ _ [.var j.enc, .var [.v (.int .i64 0), .v (.slice none 0 0)], .var [.i j.last, miss j.l], .dead, .arr 3 (L.map Mis.enc)] _ h39 (by simp) (by simp) rfl (by simp [lendsOk, lendOk, lends, lend, wkL, wk, pos]) rfl rfl rfl trivial ?_
      simp -implicitDefEqProofs only [rX,↓rY,cells?,splice,↓reduceIte,Nat.reduceEqDiff,Nat.reduceAdd,reduceCtorEq,killE,kill,kills,St.kill,isC,Nat.reduceLeDiff,yC,yB,yA]
      refine call_isA [.agg [.i j.last, .bro 3 (L.map Mis.enc)], .i k] _ (.tup [.agg [.i j.last, .sl 7 0 L.length], .ptr 7 k 0]) _ [.dead, .dead, .arv 3 (rowsM L k key (.sl 8 0 m.fl.length) (.sl 9 0 m.wt.length)), .arr 3 (m.fl.map Fet.enc), .arr 2 (m.wt.map Wai.enc)] h41 (by simp [lendsOk, lendOk, lends, lend, wkL, wk, wkB, wkR, blk, htL]) rfl (by simp only [yF, yH, renB, rowsM_ren]; rfl) trivial ?_
      have hk2 : k < (rowsM L k key (.sl 8 0 m.fl.length) (.sl 9 0 m.wt.length)).length := by rw [rowsM_len]; exact hk
      simp -implicitDefEqProofs only [rX,↓rY,cells?,splice,↓reduceIte,Nat.reduceEqDiff,Nat.reduceAdd,reduceCtorEq,isC,yC,yA]
      refine ⟨hk2, ?_⟩
      rw [rowsM_at hk2]
      simp -implicitDefEqProofs only [rX,Nat.reduceAdd,yB,yA]
      have htf : yE m.fl.length (m.fl.map Fet.enc) = m.fl.map Fet.enc := yD (by simp)
      have htw : yE m.wt.length (m.wt.map Wai.enc) = m.wt.map Wai.enc := yD (by simp)
      refine call_is (ok42 (sv key) .any m.wt who hm.wo (by omega)) (by simp [lendsOk, lendOk, lends, lend, wkL, wk, wkR, wkB, blk, htw]) rfl trivial ?_
      cases h5 : m.wt.any (eqW who) with
      | true =>
       obtain ⟨e1, e2⟩ := hp (j, []) 6 (by rw [hQ]; unfold askQ; rw [if_pos h5])
       rw [e1, e2]
       simp -implicitDefEqProofs only [rX,↓rY,ofConst,cells?,splice,↓reduceIte,Nat.reduceEqDiff,Nat.reduceAdd,isC,yC,yB,yA]
       refine ret_gv (ret_data ?_)
       simp -implicitDefEqProofs only [rX,↓rY,↓reduceIte,Nat.reduceEqDiff,Nat.reduceAdd,resP,tupV,wfV,wfL,yB,yA]
       simp [Gv, tupV, gvV, gvL, wk, wkL, wkR, wfV, wfL]
      | false =>
       simp -implicitDefEqProofs only [rX,↓rY,↓reduceIte,Nat.reduceEqDiff,Nat.reduceAdd,reduceCtorEq]
       refine ⟨hk2, ?_⟩
       rw [rowsM_at hk2]
       simp -implicitDefEqProofs only [rX,Nat.reduceAdd,yB,yA]
       refine call_is (ok44 (sv key) .any m.fl fun f hf => by have := hm.f f hf; unfold Bs; omega) (by simp [lendsOk, lendOk, lends, lend, wkL, wk, wkR, wkB, blk, htf]) rfl trivial ?_
       simp -implicitDefEqProofs only [rX,↓reduceIte,Nat.reduceEqDiff]
       refine call_is (ok43 need (flown m) (vd_iff.1 h1) (vd_vs hm.vf)) (by simp [lendsOk, lendOk, lends, lend, wkL, wk, wkR, wkB, flown]) rfl trivial ?_
       simp -implicitDefEqProofs only [rX,↓rY,rdK,ofConst,cells?,splice,↓reduceIte,Nat.reduceEqDiff,Nat.reduceAdd,reduceCtorEq,isC,yC,yB,yA]
       refine ⟨hk2, ?_⟩
       rw [rowsM_at hk2]
       simp -implicitDefEqProofs only [rX,↓rY,yA,yM]
       unfold askQ at hQ
       rw [if_neg (by rw [h5]; simp)] at hQ
       cases h6 : decide ((1000 : Int) ≤ (m.wt.length : Int)) with
       | true =>
        obtain ⟨e1, e2⟩ := hp (j, []) 2 (by rw [hQ, if_pos (.inl (by have := of_decide_eq_true h6; omega))])
        rw [e1, e2]
        simp -implicitDefEqProofs only [↓rY]
        intro _
        refine ret_gv (ret_data ?_)
        simp -implicitDefEqProofs only [rX,↓rY,↓reduceIte,Nat.reduceEqDiff,Nat.reduceAdd,resP,tupV,wfV,wfL,yB,yA]
        simp [Gv, tupV, gvV, gvL, wk, wkL, wkR, wfV, wfL]
       | false =>
        have hML : Vd (minusS need (flown m)) := vd_vs (Vs.minus (vs_vd.2 (vd_iff.1 h1)))
        have hMn := hML.len
        have hjl := hj.lo
        simp -implicitDefEqProofs only [↓rY]
        intro _ _
        refine ⟨by simp only [lo, Fx.hi]; omega, ?_⟩
        cases h7 : decide ((1152921504606846976 : Int) - ((minusS need (flown m)).length : Int) < j.last) with
        | true =>
         obtain ⟨e1, e2⟩ := hp (j, []) 2 (by rw [hQ, if_pos (.inr (of_decide_eq_true h7))])
         rw [e1, e2]
         simp -implicitDefEqProofs only [↓rY]
         refine ret_gv (ret_data ?_)
         simp -implicitDefEqProofs only [rX,↓rY,↓reduceIte,Nat.reduceEqDiff,Nat.reduceAdd,resP,tupV,wfV,wfL,yB,yA]
         simp [Gv, tupV, gvV, gvL, wk, wkL, wkR, wfV, wfL]
        | false =>
         have h6' := of_decide_eq_false h6
         have h7' := of_decide_eq_false h7
         rw [if_neg fun h => h.elim (fun h => by omega) h7'] at hQ
         simp -implicitDefEqProofs only [↓rY]
         refine ⟨hk2, ?_⟩
         rw [rowsM_at hk2]
         simp -implicitDefEqProofs only [rX,↓rY,yM]
         refine call_is (ok46 need (by omega)) (by simp [lendsOk, lendOk, lends, lend, wkL, wk, wkR, wkB]) rfl trivial ?_
         simp -implicitDefEqProofs only [rX,↓rY,cells?,splice,↓reduceIte,Nat.reduceEqDiff,Nat.reduceAdd,freshP,buildP,litsP,isD,Nat.reduceLT,Nat.reduceLeDiff,yC,yB,yA,↓op_litsf,↓frzP_n,↓frzP_c,↓frzQ_r]
         have h45 := ok45 (m.wt.map Wai.enc) (posN (ltW who) m.wt) [.i who, spans need] (by rw [yX]; exact posN_le) (by rw [yX]; omega)
         rw [yX, show [V.i who, spans need] = Wai.enc ⟨who, need⟩ from rfl, ← insT_map] at h45
         have hWl : m.wt.length + 1 = (insT m.wt (posN (ltW who) m.wt) ⟨who, need⟩).length := insT_len.symm
         rw [hWl] at h45
         unfold askM at hQ
         generalize insT m.wt (posN (ltW who) m.wt) ⟨who, need⟩ = wt' at *
         refine call_isMA [9, 10] [0, 1] [9, 10] [.sl 0 0 m.wt.length, .i (posN (ltW who) m.wt), .sl 1 0 1] (.sl 0 0 wt'.length) (.sl 9 0 wt'.length) _ _ [.var j.enc, .var [.v (.int .i64 0), .v (.slice none 0 0)], .var [.i j.last, .sl 7 0 L.length], .dead, .arr 3 (L.map Mis.enc), .dead, .dead, .arv 3 (rowsM L k key (.sl 8 0 m.fl.length) .any), .arr 3 (m.fl.map Fet.enc), .arr 2 (wt'.map Wai.enc), .dead] _ h45 (by simp) (by simp) rfl (by simp [lendsOk, lendOk, lends, lend, wkL, wk, pos]) (by simp only [yF, yH, renB, killB, rowsM_kill]; rfl) rfl rfl trivial ?_
         have hk3 : k < (rowsM L k key (.sl 8 0 m.fl.length) .any).length := by rw [rowsM_len]; exact hk
         simp -implicitDefEqProofs only [rX,↓rY,cells?,splice,↓reduceIte,Nat.reduceEqDiff,Nat.reduceAdd,reduceCtorEq,killE,kill,kills,St.kill,isC,yC,yB,yA,rowsM_at hk3,rowsM_put]
         refine ⟨hk3, ?_⟩
         have ht : yE wt'.length (wt'.map Wai.enc) = wt'.map Wai.enc := yD (by simp)
         simp -implicitDefEqProofs only [rX,↓reduceIte,Nat.reduceEqDiff,Nat.reduceAdd,yA,↓frzP_n,↓frzP_c,↓frzQ_s,↓frz1_a,↓aw_frz,get_frzE,frzV,frzL,frzB,rowsM_frz,Nat.reduceEqDiff,ht]
         have hA : Apt (m.fl ++ newF j.last (minusS need (flown m))) := apt_new hm.apt hML.1 fun x hx => (in_minusS.1 hx).2
         have h47 := ok47 j.last L.length L k hk key m.fl wt' (minusS need (flown m)) (by omega) (by omega) hmf hA hm.asc
         obtain ⟨e1, e2⟩ := hp _ _ hQ
         rw [e1, e2]
         have hFL : m.fl.length + (minusS need (flown m)).length = ((newF j.last (minusS need (flown m))).foldl insF m.fl).length := by rw [insFs_perm.length_eq, yG, newF_len]
         generalize minusS need (flown m) = l at *
         generalize (newF j.last l).foldl insF m.fl = fl' at *
         have hFl : m.fl.length + l.length = fl'.length := hFL
         refine call_isMA [2, 7, 8] [2] [8] [.ptr 0 0 0, .ptr 1 k 0, spans l] (fets (newF j.last l)) (fets (newF j.last l)) _ _ [.var j.enc, .var [.v (.int .i64 0), .v (.slice none 0 0)], .var [.i (j.last + l.length), .sl 7 0 L.length], .dead, .arr 3 (L.map Mis.enc), .dead, .dead, .arv 3 (rowsM L k key (.sl 8 0 (m.fl.length + l.length)) (wais wt')), .arr 3 (fl'.map Fet.enc), .dead, .dead] _ h47 (by simp) (by simp) (by simp only [yF, yH, blk, vG, vH, renB, rowsM_ren]; rfl) (by simp [lendsOk, lendOk, lends, lend, wkL, wk, wkR, pos]) (by simp only [yF, yH, renB, killB, rowsM_kill, rowsM_ren]; rfl) rfl rfl trivial ?_
         simp -implicitDefEqProofs only [rX,↓rY,ofConst,cells?,splice,↓reduceIte,Nat.reduceEqDiff,Nat.reduceAdd,resP,tupV,keepP,liveP,wfV,wfL,killE,kill,St.kill,isC,yC,yB,yA,get_frzE,get_killE,frzV,retP_eq]
         have hr : (L.set k ⟨key, fl', wt'⟩).map Mis.enc = rowsM L k key (fets fl') (wais wt') := by
          unfold rowsM
          rw [vC]
          rfl
         have hf2 : yE fl'.length (fl'.map Fet.enc) = fl'.map Fet.enc := yD (by simp)
         have hL2 : yE L.length ((L.set k ⟨key, fl', wt'⟩).map Mis.enc) = (L.set k ⟨key, fl', wt'⟩).map Mis.enc := yD (by simp)
         have hL3 := hL2
         rw [vC] at hL3
         have hg : St.give (fun j => j == 8) ⟨[(0, .tup [.agg [.i (j.last + l.length), .sl 7 0 L.length], fets (newF j.last l), .v (.int .i64 0)])], [.dead, .dead, .dead, .dead, .dead, .dead, .dead, .arv 3 (rowsM L k key (.sl 8 0 (m.fl.length + l.length)) (wais wt')), .arr 3 (fl'.map Fet.enc)], 0⟩ = ⟨[(0, .tup [.agg [.i (j.last + l.length), .sl 7 0 L.length], fets (newF j.last l), .v (.int .i64 0)])], [.dead, .dead, .dead, .dead, .dead, .dead, .dead, .arv 3 ((L.set k ⟨key, fl', wt'⟩).map Mis.enc), .dead], 0⟩ := by
          rw [hr, hFl]
          simp [St.give, gvE, gvH, gvB, gvL, gvV, rowsM_gv, blk, hf2]
         refine ⟨[.dead, .dead, .dead, .dead, .dead, .dead, .dead, .arv 3 (rowsM L k key (.sl 8 0 (m.fl.length + l.length)) (wais wt')), .arr 3 (fl'.map Fet.enc)], ⟨by simp [leH, leB], yV _, by simp, ?_⟩, ?_⟩
         ·simp -implicitDefEqProofs only [rX,wfB]
          exact wf_rows (by simp [wfV, liveP]) trivial
         ·refine ⟨.tup [.agg [.i (j.last + l.length), .sl 7 0 L.length], fets (newF j.last l), .v (.int .i64 0)], [.dead, .dead, .dead, .dead, .dead, .dead, .dead, .arr 3 ((L.set k ⟨key, fl', wt'⟩).map Mis.enc), .dead], ?_, _, .give (fun j => j == 8) (by simp) (.cls 7 3 ((L.set k ⟨key, fl', wt'⟩).map Mis.enc) ?_ (fun e he => ?_) (.refl _)), ?_⟩
          ·simp [Gv, tupV, gvV, gvL, wk, wkL, wkR, blk, hL3]
          ·rw [hg]; rfl
          ·obtain ⟨m, _, rfl⟩ := yQ.1 he; rfl
          ·rw [hg]
           simp -implicitDefEqProofs only [rX,↓reduceIte,leE,leH,leB,keepP,liveP,wfE,wfB,wfV,wfL]
end Go.Fx.J
namespace Go.Fx.J
open Go Go.Fx Go.Proofs Go.Fx.R
set_option maxRecDepth 20000
def comeD (wt : List Wai) (here : List Sp) : List Int := wt.filterMap fun w => if (minusS w.need here).length = 0 then some w.id else none
def comeR (wt : List Wai) (here : List Sp) : List Wai := wt.filterMap fun w => if (minusS w.need here).length = 0 then none else some ⟨w.id, minusS w.need here⟩
theorem come_step {wt : List Wai} {here : List Sp} {i : Nat} (h : i < wt.length) :
  comeD (wt.take (i + 1)) here = comeD (wt.take i) here ++ (if (minusS wt[i].need here).length = 0 then [wt[i].id] else []) ∧
  comeR (wt.take (i + 1)) here = comeR (wt.take i) here ++ (if (minusS wt[i].need here).length = 0 then [] else [⟨wt[i].id, minusS wt[i].need here⟩]) := by
 unfold comeD comeR
 rw [vB h, xB, xB]
 by_cases h : (minusS wt[i].need here).length = 0
 ·have h' := List.length_eq_zero_iff.1 h
  simp [h']
 ·have h' : ¬ minusS wt[i].need here = [] := fun e => h (by rw [e]; rfl)
  simp [h']
theorem comeD_len {wt : List Wai} {here : List Sp} : (comeD wt here).length ≤ wt.length := xC _ _
theorem comeR_len {wt : List Wai} {here : List Sp} : (comeR wt here).length ≤ wt.length := xC _ _
theorem comeR_mem {wt : List Wai} {here : List Sp} {w : Wai} (h : w ∈ comeR wt here) : ∃ v ∈ wt, (minusS v.need here).length ≠ 0 ∧ w = ⟨v.id, minusS v.need here⟩ := by
 obtain ⟨v, hv, h⟩ := List.mem_filterMap.1 h
 split at h
 ·cases h
 ·rename_i hc
  exact ⟨v, hv, hc, by simpa using h.symm⟩
def hereP (m : Mis) (i : Nat) (got : List Sp) : List Sp := meetS [(fAt m i).sp] got
def wantP (key : S) (m : Mis) (i : Nat) (got : List Sp) : List Sp := meetS (minusS [(fAt m i).sp] (hereP m i got)) (needed ⟨key, lessL m.fl i, comeR m.wt (hereP m i got)⟩)
def comeM (j : Jns) (k : Nat) (key : S) (m : Mis) (i : Nat) (got : List Sp) : (Jns × List Int × List Fet) × Int :=
 if 1152921504606846976 - ((wantP key m i got).length : Int) < j.last then ((j, [], []), 2)
 else ((⟨j.last + (wantP key m i got).length, cleanL j.l k key ((newF j.last (wantP key m i got)).foldl insF (lessL m.fl i)) (comeR m.wt (hereP m i got))⟩, comeD m.wt (hereP m i got), newF j.last (wantP key m i got)), 0)
def comeP (j : Jns) (key : S) (id : Int) (got : List Sp) : (Jns × List Int × List Fet) × Int :=
 if j.l.any (eqM key) = false then ((j, [], []), 5)
 else if (mAt j (posN (ltM key) j.l)).fl.any (eqF id) = false then ((j, [], []), 5)
 else if vd got = false then ((j, [], []), 1)
 else comeM j (posN (ltM key) j.l) key (mAt j (posN (ltM key) j.l)) ((mAt j (posN (ltM key) j.l)).fl.findIdx (eqF id)) got
theorem less_apart {l : List Fet} {i : Nat} (hi : i < l.length) (ho : l.Pairwise fun a b => a.sp.2 ≤ b.sp.1) {f : Fet} (hf : f ∈ lessL l i) : f.sp.2 ≤ l[i].sp.1 ∨ l[i].sp.2 ≤ f.sp.1 := by
 rw [uU] at ho
 unfold lessL at hf
 rcases yS.1 hf with h | h
 ·obtain ⟨a, ha, rfl⟩ := yO h
  rw [uB]
  rw [uK] at ha
  exact .inl (ho a i (by omega) hi (by omega))
 ·obtain ⟨a, ha, rfl⟩ := yO h
  rw [vY]
  rw [uV] at ha
  exact .inr (ho i (i + 1 + a) hi (by omega) (by omega))
theorem less_pair {α : Type} {r : α → α → Prop} {l : List α} {i : Nat} (h : l.Pairwise r) : (lessL l i).Pairwise r := by
 have hs : (lessL l i).Sublist l := by
  unfold lessL
  conv => rhs; rw [← uC i l]
  exact (List.Sublist.refl _).append (List.drop_sublist_drop_left l (by omega))
 exact h.sublist hs
theorem ok18 (j : Jns) (key : S) (id : Int) (got : List Sp) (hj : JOk j) (hf : ∀ m ∈ j.l, m.fl.length ≤ 1099511627776) :
  Ok 18 [.agg j.enc, sv key, .i id, spans got] (Is (.tup [.agg (comeP j key id got).1.1.enc, ints (comeP j key id got).1.2.1, fets (comeP j key id got).1.2.2, .i (comeP j key id got).2])) := by
 refine okN_gv ?_
 refine ok_of lw18f (by simp) ?_
 unfold c18f
 have hp : ∀ x y, comeP j key id got = (x, y) → (comeP j key id got).1 = x ∧ (comeP j key id got).2 = y := fun x y h => by rw [h]; exact ⟨rfl, rfl⟩
 simp -implicitDefEqProofs only [rX,↓rY,ofConst,cells?,↓reduceIte,Nat.reduceEqDiff,Nat.reduceAdd,reduceCtorEq,freshP,cxN,yB,yA,args0]
 refine call_is (ok38 (.i j.last) j.l key hj.o (by have := hj.n; omega)) (by simp [lendsOk, lendOk, lends, lend, wkL, wk, wkR, wkB]) rfl trivial ?_
 cases h1 : j.l.any (eqM key) with
 | false =>
  obtain ⟨e1, e2⟩ := hp (j, [], []) 5 (by unfold comeP; rw [if_pos h1])
  rw [e1, e2]
  simp -implicitDefEqProofs only [rX,↓rY,ofConst,cells?,splice,↓reduceIte,Nat.reduceEqDiff,Nat.reduceAdd,isC,yC,yB,yA]
  refine ret_data ?_
  simp -implicitDefEqProofs only [rX,↓rY,↓reduceIte,Nat.reduceEqDiff,Nat.reduceAdd,resP,tupV,wfV,wfL,yB,yA]
  simp [Gv, tupV, gvV, gvL, wk, wkL, wkR, wfV, wfL]
 | true =>
  obtain ⟨hk, hkey⟩ := posN_any hj.o h1
  have hm := hj.m _ (yK hk)
  have hfl := hf _ (yK hk)
  have hat := mAt_eq hk
  have hl : comeP j key id got = if j.l[posN (ltM key) j.l].fl.any (eqF id) = false then ((j, [], []), 5) else if vd got = false then ((j, [], []), 1) else comeM j (posN (ltM key) j.l) key j.l[posN (ltM key) j.l] (j.l[posN (ltM key) j.l].fl.findIdx (eqF id)) got := by
   unfold comeP
   rw [if_neg (by rw [h1]; simp), hat]
  generalize posN (ltM key) j.l = k at *
  simp -implicitDefEqProofs only [rX,↓rY,↓reduceIte,Nat.reduceEqDiff,Nat.reduceAdd,reduceCtorEq,ms_len,ms_t,yA]
  have hn := hj.n
  have hwn := hm.n
  refine ⟨⟨by omega, by omega⟩, hk, ?_⟩
  refine call_is (ok54 (sv j.l[k].key) .any j.l[k].fl id) (by simp [lendsOk, lendOk, lends, lend, wkL, wk, wkR, wkB, Mis.enc]) rfl trivial ?_
  cases h2 : j.l[k].fl.any (eqF id) with
  | false =>
   obtain ⟨e1, e2⟩ := hp (j, [], []) 5 (by rw [hl, if_pos h2])
   rw [e1, e2]
   have hfi : fstI (eqF id) j.l[k].fl = -1 := by unfold fstI; rw [if_neg (by rw [h2]; simp)]
   have hlt : decide ((-1 : Int) < 0) = true := rfl
   simp -implicitDefEqProofs only [rX,↓rY,ofConst,cells?,splice,↓reduceIte,Nat.reduceEqDiff,Nat.reduceAdd,reduceCtorEq,isC,yC,yB,yA,hfi,hlt]
   refine ret_data ?_
   simp -implicitDefEqProofs only [rX,↓rY,↓reduceIte,Nat.reduceEqDiff,Nat.reduceAdd,resP,tupV,wfV,wfL,yB,yA]
   simp [Gv, tupV, gvV, gvL, wk, wkL, wkR, wfV, wfL]
  | true =>
   have hi : j.l[k].fl.findIdx (eqF id) < j.l[k].fl.length := by
    obtain ⟨f, hf, he⟩ := vU.1 h2
    exact uJ.2 ⟨f, hf, he⟩
   have hfi : fstI (eqF id) j.l[k].fl = (j.l[k].fl.findIdx (eqF id) : Nat) := by unfold fstI; rw [if_pos h2]
   rw [if_neg (by rw [h2]; simp)] at hl
   rw [hfi]
   generalize j.l[k].fl.findIdx (eqF id) = i at *
   have hlt : decide ((i : Int) < 0) = false := decide_eq_false (by omega)
   simp -implicitDefEqProofs only [rX,↓rY,ofConst,cells?,splice,↓reduceIte,Nat.reduceEqDiff,Nat.reduceAdd,reduceCtorEq,isC,yC,yB,yA,hlt]
   refine call_is (ok37 got) (by simp [lendsOk, lendOk, lends, lend, wkL, wk, wkR, wkB]) rfl trivial ?_
   cases h3 : vd got with
   | false =>
    obtain ⟨e1, e2⟩ := hp (j, [], []) 1 (by rw [hl, if_pos h3])
    rw [e1, e2]
    simp -implicitDefEqProofs only [rX,↓rY,ofConst,cells?,splice,↓reduceIte,Nat.reduceEqDiff,Nat.reduceAdd,isC,yC,yB,yA]
    refine ret_data ?_
    simp -implicitDefEqProofs only [rX,↓rY,↓reduceIte,Nat.reduceEqDiff,Nat.reduceAdd,resP,tupV,wfV,wfL,yB,yA]
    simp [Gv, tupV, gvV, gvL, wk, wkL, wkR, wfV, wfL]
   | true =>
    rw [if_neg (by rw [h3]; simp)] at hl
    have hgd : Vd got := vd_iff.1 h3
    have h41 := ok41 j k hk (by omega) fun m hm => ⟨yP (hf m hm) (by omega), yP (hj.m m hm).n (by omega)⟩
    rw [hkey] at h41
    simp -implicitDefEqProofs only [rX,↓rY,↓reduceIte,Nat.reduceEqDiff,Nat.reduceAdd,yB,yA]
    refine call_isA [.agg [.i j.last, .bro 3 (j.l.map Mis.enc)], .i k] _ (.tup [.agg [.i j.last, .sl 5 0 j.l.length], .ptr 5 k 0]) _ [.dead, .dead, .arv 3 (rowsM j.l k key (.sl 6 0 j.l[k].fl.length) (.sl 7 0 j.l[k].wt.length)), .arr 3 (j.l[k].fl.map Fet.enc), .arr 2 (j.l[k].wt.map Wai.enc)] h41 (by simp [lendsOk, lendOk, lends, lend, wkL, wk, wkB, wkR]) rfl (by simp only [yF, yH, renB, rowsM_ren]; rfl) trivial ?_
    generalize j.l[k] = m at *
    have hk2 : k < (rowsM j.l k key (.sl 6 0 m.fl.length) (.sl 7 0 m.wt.length)).length := by rw [rowsM_len]; exact hk
    simp -implicitDefEqProofs only [rX,↓rY,ofConst,cells?,splice,↓reduceIte,Nat.reduceEqDiff,Nat.reduceAdd,reduceCtorEq,freshP,isC,yC,yA]
    refine ⟨hk2, ?_⟩
    rw [rowsM_at hk2]
    simp -implicitDefEqProofs only [rX,Nat.reduceAdd,yB,yA]
    have htf : yE m.fl.length (m.fl.map Fet.enc) = m.fl.map Fet.enc := yD (by simp)
    refine call_is (ok54 (sv key) .any m.fl id) (by simp [lendsOk, lendOk, lends, lend, wkL, wk, wkR, wkB, blk, htf]) rfl trivial ?_
    simp -implicitDefEqProofs only [rX,↓rY,cells?,↓reduceIte,Nat.reduceEqDiff,Nat.reduceAdd,freshP,litsP,Nat.reduceLT,yA,hfi]
    refine ⟨hk2, ?_⟩
    rw [rowsM_at hk2]
    simp -implicitDefEqProofs only [rX,↓rY,arrSz,Nat.reduceAdd,enS_len,enS_D,ft_len,ft_d1,yA,yM]
    refine ⟨⟨by omega, by omega⟩, hi, ?_⟩
    have hlf : m.fl.length - 1 = (lessL m.fl i).length := by unfold lessL; simp; omega
    simp -implicitDefEqProofs only [rX,↓rY,ofConst,↓reduceIte,Nat.reduceEqDiff,Nat.reduceAdd,yA,↓frzP_n,↓frzP_c,↓frzQ_s,↓frz1_a,↓aw_frz,get_frzE,frzV,frzL,frzB,rowsM_frz,Nat.reduceEqDiff]
    refine ⟨hk2, ?_⟩
    rw [rowsM_at hk2]
    simp -implicitDefEqProofs only [rX,↓rY,yM]
    refine ⟨by simp only [lo, Fx.hi]; omega, ?_⟩
    refine call_isMA [6] [] [] [.sl 0 0 m.fl.length, .i i, .i ((i : Int) + 1)] (.sl 0 0 (m.fl.length - 1)) (.sl 6 0 (lessL m.fl i).length) _ _ [.var [.i j.last, miss j.l], .var [.v (.int .i64 0), .v (.slice none 0 0)], .var [.i j.last, .sl 5 0 j.l.length], .dead, .dead, .arv 3 (rowsM j.l k key (.sl 6 0 m.fl.length) (.sl 7 0 m.wt.length)), .arr 3 ((lessL m.fl i).map Fet.enc), .arr 2 (m.wt.map Wai.enc), .dead] _ (ok55 m.fl i hi) (by simp) (by simp) rfl (by simp [lendsOk, lendOk, lends, lend, wkL, wk, pos]) (by simp only [yF, yH, renB, killB, rowsM_kill]; rfl) (by rw [← hlf]; rfl) rfl trivial ?_
    simp -implicitDefEqProofs only [rX,↓rY,cells?,splice,↓reduceIte,Nat.reduceEqDiff,Nat.reduceAdd,reduceCtorEq,killE,kill,St.kill,isC,Nat.reduceLeDiff,yC,yB,yA,rowsM_at hk2,rowsM_put,get_frzE,get_killE,frzV,Nat.reduceEqDiff]
    refine ⟨hk2, ?_⟩
    have hspi := hm.f _ (yK hi)
    have hfa : fAt m i = m.fl[i] := fAt_eq hi
    have hsp := vd_vs (vs_one hspi.1)
    have hap := fun f (h : f ∈ lessL m.fl i) => less_apart hi hm.fo h
    have hhp : hereP m i got = meetS [m.fl[i].sp] got := by unfold hereP; rw [hfa]
    unfold comeM at hl
    obtain ⟨e, he⟩ : ∃ e, e = wantP key m i got := ⟨_, rfl⟩
    have he' : e = meetS (minusS [m.fl[i].sp] (hereP m i got)) (needed ⟨key, lessL m.fl i, comeR m.wt (hereP m i got)⟩) := by rw [he]; unfold wantP; rw [hfa]
    rw [← he] at hl
    clear he
    have hdh : Vd (meetS [m.fl[i].sp] got) := vd_vs (Vs.meet (vs_one hspi.1))
    rw [hhp] at hl he'
    generalize m.fl[i].sp = sp at *
    refine call_is (ok56 [sp] got hsp hgd) (by simp [lendsOk, lendOk, lends, lend, wkL, wk, wkR, wkB]) rfl trivial ?_
    generalize meetS [sp] got = here at *
    have hk3 : k < (rowsM j.l k key (.sl 6 0 (lessL m.fl i).length) (.sl 7 0 m.wt.length)).length := by rw [rowsM_len]; exact hk
    simp -implicitDefEqProofs only [rX,↓rY,ofConst,↓reduceIte,Nat.reduceEqDiff,Nat.reduceAdd,kill,St.kill,get_frzE,get_killE,frzV,Nat.reduceEqDiff]
    refine ⟨hk3, ?_⟩
    rw [rowsM_at hk3]
    simp -implicitDefEqProofs only [rX,↓rY,yM]
    intro hml
    have hfr : (lessL m.fl i).length ≤ 1099511627776 := by omega
    obtain ⟨fl, hfe⟩ : ∃ fl, fl = lessL m.fl i := ⟨_, rfl⟩
    rw [← hfe] at hl he' hk3 hap hfr ⊢
    refine loopP_ghost (.virt 1 1 (by decide) (.virt 1 2 (by decide) (.nilE 19 9 rfl (.nilE 20 10 rfl (.refl _))))) (fun g : Nat => ⟨[(87, .i g), (86, .i m.wt.length), (85, .sl 7 0 m.wt.length), (20, .sl 10 0 (comeR (m.wt.take g) here).length), (19, .sl 9 0 (comeD (m.wt.take g) here).length), (18, spans here), (17, spans [sp]), (15, .ptr 5 k 0), (14, .ptr 2 0 0), (12, .i k), (8, .ptr 1 0 0), (4, .ptr 0 0 0)], [.var [.i j.last, miss j.l], .var [.v (.int .i64 0), .v (.slice none 0 0)], .var [.i j.last, .sl 5 0 j.l.length], .dead, .dead, .arv 3 (rowsM j.l k key (.sl 6 0 fl.length) (.sl 7 0 m.wt.length)), .arr 3 (fl.map Fet.enc), .arr 2 (m.wt.map Wai.enc), .dead, .arr 1 ((comeD (m.wt.take g) here).map encI), .arr 2 ((comeR (m.wt.take g) here).map Wai.enc)], 9⟩) (fun g => g ≤ m.wt.length) (fun g => m.wt.length - g) 0 (by omega) ?_ ?_
    ·simp -implicitDefEqProofs only [rX,↓reduceIte,Nat.reduceEqDiff,reduceCtorEq,leE,leH,leB,leV,leVs,keepP,liveP,wfE,wfB,wfV,wfL,kill,St.kill,yB,yA,vF,comeR,comeD,List.filterMap_nil,yT,get_frzE,get_killE,frzV,Nat.reduceEqDiff]
     exact ⟨rfl, wf_rows (by simp [wfV, liveP]) (by simp [wfV, liveP])⟩
    intro g hg
    unfold c18l0
    have hDl := comeD_len (wt := m.wt.take g) (here := here)
    have hRl := comeR_len (wt := m.wt.take g) (here := here)
    rw [yZ hg] at hDl hRl
    rcases yN g m.wt.length with hg' | hg'
    ·have hd : decide ((g : Int) < (m.wt.length : Int)) = true := decide_eq_true (by omega)
     obtain ⟨s1, s2⟩ := come_step (here := here) hg'
     have hwv := (hm.w _ (yK hg')).1
     simp -implicitDefEqProofs only [rX,↓rY,ofConst,cells?,splice,↓reduceIte,Nat.reduceEqDiff,arrSz,Nat.reduceAdd,freshP,wt_len,wt_t,wt_1,wt_C,yC,yA,hd]
     refine ⟨⟨by omega, by omega⟩, hg', ?_⟩
     refine call_is (ok43 m.wt[g].need here (vd_vs hwv) hdh) (by simp [lendsOk, lendOk, lends, lend, wkL, wk, wkR, wkB]) rfl trivial ?_
     have hW : yE 1 m.wt[g].enc ++ [spans (minusS m.wt[g].need here)] ++ yU 2 m.wt[g].enc = Wai.enc ⟨m.wt[g].id, minusS m.wt[g].need here⟩ := rfl
     simp -implicitDefEqProofs only [rX,↓rY,ofConst,cells?,splice,↓reduceIte,Nat.reduceEqDiff,Nat.reduceAdd,reduceCtorEq,freshP,litsP,leE,leH,leB,leV,leVs,keepP,liveP,wfE,wfB,wfV,wfL,killE,killB,kill,kills,St.kill,isC,Nat.reduceLT,wt_len,wt_k,yB,yA]
     rw [hW]
     by_cases hz : (minusS m.wt[g].need here).length = 0
     ·have hzb : (((minusS m.wt[g].need here).length : Int) == 0) = true := by rw [hz]; rfl
      rw [if_pos hz] at s1
      rw [if_pos hz, yJ] at s2
      simp -implicitDefEqProofs only [rX,↓rY,isD,wt_t,wt_0,wt_1,yA,hzb]
      refine fun _ => ⟨by omega, by simp only [lo, Fx.hi]; omega, g + 1, ⟨hg', by omega⟩, ⟨by omega, by rw [s2], by rw [s1, yG]; rfl⟩, ⟨?_, ?_, by rw [s2]⟩, wf_rows (by simp [wfV, liveP]) (by simp [wfV, liveP])⟩
      ·rw [rowsM_kill]; rfl
      ·rw [s1, yD (by simp), yI]; rfl
     ·have hzb : (((minusS m.wt[g].need here).length : Int) == 0) = false := by rw [beq_eq_false_iff_ne]; omega
      rw [if_neg hz, yJ] at s1
      rw [if_neg hz] at s2
      simp -implicitDefEqProofs only [rX,↓rY,ofConst,cells?,↓reduceIte,Nat.reduceEqDiff,Nat.reduceAdd,reduceCtorEq,freshP,litsP,leE,leH,leB,leV,leVs,keepP,liveP,wfE,wfB,wfV,wfL,killE,killB,kill,kills,St.kill,isD,Nat.reduceLT,wt_len,wt_t,wt_0,wt_1,wt_D,wt_k,yB,yA,hzb,↓op_litsf,↓frzP_n,↓frzP_c,↓frzQ_a]
      refine fun _ => ⟨by simp [Wai.enc], by omega, by simp only [lo, Fx.hi]; omega, g + 1, ⟨hg', by omega⟩, ⟨by omega, by rw [s2, yG]; rfl, by rw [s1]⟩, ⟨?_, by rw [s1], ?_⟩, wf_rows (by simp [wfV, liveP]) (by simp [wfV, liveP])⟩
      ·rw [rowsM_kill]; rfl
      ·rw [s2, yD (by simp), yI]; rfl
    ·have hd : decide ((g : Int) < (m.wt.length : Int)) = false := decide_eq_false (by omega)
     have hge : g = m.wt.length := by omega
     subst hge
     rw [yY] at hDl hRl ⊢
     simp -implicitDefEqProofs only [rX,↓rY,cells?,splice,↓reduceIte,Nat.reduceEqDiff,Nat.reduceAdd,isC,yC,yB,yA,hd,rowsM_at hk3,rowsM_put]
     refine ⟨hk3, ?_⟩
     have hwr : ∀ w ∈ comeR m.wt here, Vs w.need := fun w hw => by
      obtain ⟨v, hv, _, rfl⟩ := comeR_mem hw
      exact Vs.minus (hm.w v hv).1
     have hl2 := hl
     generalize comeR m.wt here = wt at *
     generalize comeD m.wt here = D at *
     have ht : yE wt.length (wt.map Wai.enc) = wt.map Wai.enc := yD (by simp)
     have hk4 : k < (rowsM j.l k key (.sl 6 0 fl.length) (.ro 2 (wt.map Wai.enc))).length := by rw [rowsM_len]; exact hk
     simp -implicitDefEqProofs only [rX,↓rY,rdK,↓reduceIte,Nat.reduceEqDiff,Nat.reduceAdd,yA,↓frzP_n,↓frzP_c,↓frzQ_s,↓frz1_a,↓aw_frz,get_frzE,frzV,frzL,frzB,rowsM_frz,Nat.reduceEqDiff,ht]
     refine ⟨hk4, ?_⟩
     rw [rowsM_at hk4]
     simp -implicitDefEqProofs only [rX,Nat.reduceAdd,yB,yA]
     have hVm : Vd (minusS [sp] here) := vd_vs (Vs.minus (vs_one hspi.1))
     have hVn : Vd (needed ⟨key, fl, wt⟩) := vd_vs (vs_need hwr)
     have hVe : Vd e := by rw [he']; exact vd_vs (Vs.meet (vs_vd.2 hVm))
     have hel := hVe.len
     have hein : ∀ x, inS e x → inS [sp] x := fun x hx => by rw [he'] at hx; exact (in_minusS.1 (in_meetS.1 hx).1).1
     refine call_is (ok43 [sp] here hsp hdh) (by simp [lendsOk, lendOk, lends, lend, wkL, wk, wkR, wkB]) rfl trivial ?_
     simp -implicitDefEqProofs only [rX,↓reduceIte,Nat.reduceEqDiff]
     refine call_is (ok57 key wt fun w h => (vd_vs (hwr w h)).2) (by simp [lendsOk, lendOk, lends, lend, wkL, wk, wkR, wkB, blk]) rfl trivial ?_
     rw [show ofS (nd wt) = needed ⟨key, fl, wt⟩ from rfl]
     simp -implicitDefEqProofs only [rX,↓reduceIte,Nat.reduceEqDiff]
     refine call_is (ok56 (minusS [sp] here) (needed ⟨key, fl, wt⟩) hVm hVn) (by simp [lendsOk, lendOk, lends, lend, wkL, wk, wkR, wkB]) rfl trivial ?_
     rw [← he']
     have hjl := hj.lo
     simp -implicitDefEqProofs only [rX,↓rY,ofConst,cells?,splice,↓reduceIte,Nat.reduceEqDiff,Nat.reduceAdd,reduceCtorEq,isC,yC,yB,yA,get_frzE,frzV,Nat.reduceEqDiff]
     intro _
     refine ⟨by simp only [lo, Fx.hi]; omega, ?_⟩
     cases h4 : decide ((1152921504606846976 : Int) - (e.length : Int) < j.last) with
     | true =>
      obtain ⟨e1, e2⟩ := hp (j, [], []) 2 (by rw [hl, if_pos (of_decide_eq_true h4)])
      rw [e1, e2]
      simp -implicitDefEqProofs only [↓rY]
      refine ret_data ?_
      simp -implicitDefEqProofs only [rX,↓rY,↓reduceIte,Nat.reduceEqDiff,Nat.reduceAdd,resP,tupV,wfV,wfL,yB,yA,get_frzE,frzV,Nat.reduceEqDiff]
      simp [Gv, tupV, gvV, gvL, wk, wkL, wkR, wfV, wfL]
     | false =>
      rw [if_neg (of_decide_eq_false h4)] at hl
      obtain ⟨e1, e2⟩ := hp _ _ hl
      rw [e1, e2]
      have h4' := of_decide_eq_false h4
      have hfm : ∀ f ∈ fl, 0 ≤ f.sp.1 ∧ f.sp.1 < f.sp.2 ∧ f.sp.2 ≤ 1099511627776 := fun f hf => (hm.f f (mem_less (by rw [hfe] at hf; exact hf))).1
      have hfo : fl.Pairwise fun a b => a.sp.2 ≤ b.sp.1 := by rw [hfe]; exact less_pair hm.fo
      have hA : Apt (fl ++ newF j.last e) := apt_new (m := ⟨key, fl, wt⟩) (apt_of (fun f hf => (hfm f hf).2.1) hfo) hVe.1 fun x hx hc => by
       obtain ⟨f, hf, a1, a2⟩ := in_flown.1 hc
       obtain ⟨s, hs, b1, b2⟩ := hein x hx
       obtain rfl : s = sp := by simpa using hs
       have := hap f hf
       omega
      have hasc : Asc1 fl := uT (fun {a b} ha hb hr => by have := (hfm a ha).2.1; omega) hfo
      have h47 := ok47 j.last j.l.length j.l k hk key fl wt e (by omega) hel hfr hA hasc
      simp -implicitDefEqProofs only [↓rY]
      have hFL : fl.length + e.length = ((newF j.last e).foldl insF fl).length := by rw [insFs_perm.length_eq, yG, newF_len]
      have hfx : ∀ f ∈ (newF j.last e).foldl insF fl, Vd [f.sp] := fun f hf => by
       rcases yS.1 (insFs_perm.mem_iff.1 hf) with hf | hf
       ·exact vd_vs (vs_one (hfm f hf))
       ·have a := (newF_mem hf).1
        have b := hVe.2 _ a
        have c := hVe.1.1 _ a
        exact vd_vs (vs_one (by omega))
      rw [hFL] at h47
      have hcO : cleanO key ((newF j.last e).foldl insF fl) wt = cleanO key ((newF j.last e).foldl insF fl) wt := rfl
      have hVn' : Vd (needed ⟨key, (newF j.last e).foldl insF fl, wt⟩) := hVn
      have hnl : ((newF j.last e).foldl insF fl).length ≤ 2199023255552 := by omega
      generalize (newF j.last e).foldl insF fl = fl' at *
      refine call_isMA [2, 5, 6] [2] [6] [.ptr 0 0 0, .ptr 1 k 0, spans e] (fets (newF j.last e)) (fets (newF j.last e)) _ _ [.var [.i j.last, miss j.l], .var [.v (.int .i64 0), .v (.slice none 0 0)], .var [.i (j.last + e.length), .sl 5 0 j.l.length], .dead, .dead, .arv 3 (rowsM j.l k key (.sl 6 0 fl'.length) (wais wt)), .arr 3 (fl'.map Fet.enc), .arr 2 (m.wt.map Wai.enc), .dead, .arr 1 (D.map encI), .dead] _ h47 (by simp) (by simp) (by simp only [yF, yH, blk, vG, vH, renB, rowsM_ren]; rfl) (by simp [lendsOk, lendOk, lends, lend, wkL, wk, wkR, pos]) (by simp only [yF, yH, renB, killB, rowsM_kill, rowsM_ren]; rfl) rfl rfl trivial ?_
      simp -implicitDefEqProofs only [rX,↓reduceIte,Nat.reduceEqDiff,Nat.reduceAdd,reduceCtorEq,killE,kill,kills,St.kill,get_frzE,get_killE,frzV,Nat.reduceEqDiff]
      refine call_isMA [2, 5, 6] [2] [6] [.ptr 0 0 0, .i k] (ints (cleanO key fl' wt)) (ints (cleanO key fl' wt)) _ _ [.var [.i j.last, miss j.l], .var [.v (.int .i64 0), .v (.slice none 0 0)], .var [.i (j.last + e.length), .sl 5 0 (cleanL j.l k key fl' wt).length], .dead, .dead, .arr 3 ((cleanL j.l k key fl' wt).map Mis.enc), .dead, .arr 2 (m.wt.map Wai.enc), .dead, .arr 1 (D.map encI), .dead] _ (ok53 (j.last + e.length) j.l k hk key fl' wt (by omega) hnl hVn' hfx fun w h => vd_vs (hwr w h)) (by simp) (by simp) (by simp only [yF, yH, blk, vG, vH, renB, rowsM_ren]; rfl) (by simp [lendsOk, lendOk, lends, lend, wkL, wk, pos]) rfl rfl rfl trivial ?_
      generalize cleanL j.l k key fl' wt = L'
      have hL : yE L'.length (L'.map Mis.enc) = L'.map Mis.enc := yD (by simp)
      have hDt : yE D.length (D.map encI) = D.map encI := yD (by simp)
      simp -implicitDefEqProofs only [rX,↓rY,ofConst,cells?,splice,↓reduceIte,Nat.reduceEqDiff,Nat.reduceAdd,reduceCtorEq,resP,tupV,keepP,liveP,wfV,wfL,killE,kill,kills,St.kill,isC,yC,yB,yA,get_frzE,get_killE,frzV,Nat.reduceEqDiff,retP_eq]
      refine ⟨[.dead, .dead, .dead, .dead, .dead, .arr 3 (L'.map Mis.enc), .dead, .dead, .dead, .arr 1 (D.map encI)], ⟨by simp [leH, leB], yV _, by simp, by simp [wfB]⟩, ?_⟩
      simp [Gv, tupV, gvV, gvL, wk, wkL, wkR, wfV, wfL, blk, hL, hDt]
end Go.Fx.J
namespace Go.Fx.J
open Go Go.Fx Go.Proofs Go.Fx.R
set_option maxRecDepth 20000
theorem ok36 (x y : Int) : Ok 36 [.i x, .i y] (Is (spans [(x, y)])) := by
 refine okN_gv ?_
 refine ok_of lw36 (by simp) ?_
 unfold c36
 simp -implicitDefEqProofs only [rX,↓rY,ofConst,cells?,splice,↓reduceIte,Nat.reduceEqDiff,Nat.reduceAdd,reduceCtorEq,freshP,buildP,litsP,isD,Nat.reduceLT,Nat.reduceLeDiff,cxN,yC,yB,yA,args0]
 exact ret_sl (els := [enS (x, y)]) rfl rfl rfl
theorem ok17b (l : List Int) : Ok 17 [.ro 1 (l.map encI), .bro 1 (l.map encI)] (Is (.b true)) := by
 refine ok_of lw17 (by simp) ?_
 unfold c17
 simp -implicitDefEqProofs only [rX,↓rY,ofConst,↓reduceIte,Nat.reduceEqDiff,reduceCtorEq,cxN,yA,args0,bne_self_eq_false]
 refine fun _ _ => ?_
 refine loopP_intro (fun k : Nat => ⟨[(5, .i k), (0, .ro 1 (l.map encI)), (1, .bro 1 (l.map encI))], [], 0⟩) (fun k => k ≤ l.length) (fun k => l.length - k) 0 (by omega) ?_ ?_
 ·simp -implicitDefEqProofs only [rX,↓reduceIte,Nat.reduceEqDiff,reduceCtorEq,leE,leH,keepP,wfE,wfB,wfV,yT]
 rintro k hk
 unfold c17l0
 rcases yN k l.length with hk' | hk'
 ·have hd : decide ((k : Int) < (l.length : Int)) = true := decide_eq_true (by omega)
  have hkk : (0 : Int) ≤ k ∧ (k : Int) < l.length := ⟨by omega, by omega⟩
  simp -implicitDefEqProofs only [rX,↓rY,rZ,ofConst,↓reduceIte,Nat.reduceEqDiff,reduceCtorEq,leE,leH,keepP,wfE,wfB,wfV,yA,hd,bne_self_eq_false]
  exact fun _ => ⟨hkk, hk', hkk, hk', by simp only [lo, hi, maxLen] at *; omega, k + 1, ⟨by omega, by omega⟩, by simp⟩
 ·have hd : decide ((k : Int) < (l.length : Int)) = false := decide_eq_false (by omega)
  simp -implicitDefEqProofs only [rX,↓rY,ofConst,↓reduceIte,Nat.reduceEqDiff,reduceCtorEq,resP,tupV,wfV,hd]
  exact fun _ => trivial
def kk : S := [107]
def sj0 : Jns := ⟨0, []⟩
def sj1 : Jns := ⟨1, [⟨kk, [⟨1, (0, 10)⟩], [⟨1, [(0, 10)]⟩]⟩]⟩
def sj2 : Jns := ⟨2, [⟨kk, [⟨1, (0, 10)⟩, ⟨2, (10, 15)⟩], [⟨1, [(0, 10)]⟩, ⟨2, [(5, 15)]⟩]⟩]⟩
def sj3 : Jns := ⟨2, [⟨kk, [⟨1, (0, 10)⟩, ⟨2, (10, 15)⟩], [⟨1, [(0, 10)]⟩, ⟨2, [(5, 15)]⟩, ⟨3, [(0, 3)]⟩]⟩]⟩
theorem k_k : Value.string ⟨#[107]⟩ = .string (sb kk) := rfl
theorem n11 : (((1 : Nat) : Int) != 1) = false := rfl
theorem n00 : (((0 : Nat) : Int) != 0) = false := rfl
theorem fe1 (a b c : Int) : V.agg [V.v (Value.int IntKind.i64 a), V.v (Value.int IntKind.i64 b), V.v (Value.int IntKind.i64 c)] = V.agg (Fet.enc ⟨a, (b, c)⟩) := rfl
theorem ge0 {x : List V} {h : uL 0 < [x].length} : [x][uL 0]'h = x := rfl
theorem s1 : askP sj0 kk 1 [(0, 10)] = ((sj1, [⟨1, (0, 10)⟩]), 0) := by decide
theorem s2 : askP sj1 kk 2 [(5, 15)] = ((sj2, [⟨2, (10, 15)⟩]), 0) := by decide
theorem s3 : askP sj2 kk 3 [(0, 3)] = ((sj3, []), 0) := by decide
theorem s4a : (comeP sj3 kk 1 [(0, 10)]).1.2.1 = [1, 3] := by decide
theorem s4b : (comeP sj3 kk 1 [(0, 10)]).1.2.2 = [] := by decide
theorem s4c : (comeP sj3 kk 1 [(0, 10)]).2 = 0 := by decide
theorem s5a : (comeP sj3 kk 1 [(0, 4)]).1.2.1 = [3] := by decide
theorem s5b : (comeP sj3 kk 1 [(0, 4)]).1.2.2 = [⟨3, (4, 10)⟩] := by decide
theorem s5c : (comeP sj3 kk 1 [(0, 4)]).2 = 0 := by decide
theorem s6a : (failP sj3 kk 2).1.2.1 = [2] := by decide
theorem s6b : (failP sj3 kk 2).1.2.2 = [] := by decide
theorem s6c : (failP sj3 kk 2).2 = 0 := by decide
theorem s7a : (leaveP sj3 kk 2).1.2 = [2] := by decide
theorem s7b : (leaveP sj3 kk 2).2 = 0 := by decide
theorem v0 : JOk sj0 := valid_iff.1 (by decide)
theorem v1 : JOk sj1 := valid_iff.1 (by decide)
theorem v2 : JOk sj2 := valid_iff.1 (by decide)
theorem v3 : JOk sj3 := valid_iff.1 (by decide)
theorem f_of {j : Jns} (h : (j.l.all fun m => decide (m.fl.length ≤ 1099511627776)) = true) : ∀ m ∈ j.l, m.fl.length ≤ 1099511627776 := fun m hm => of_decide_eq_true (vS.1 h m hm)
set_option maxHeartbeats 8000000 in
theorem ok9 : Ok 9 [] (Is (.b true)) := by
 refine ok_of lw9 (by simp) ?_
 unfold c9
 simp -implicitDefEqProofs only [rX,ofConst,buildP,cxN,args0,k_k]
 refine call_is (ok36 0 10) (by simp [lendsOk, lendOk, lends, lend, wkL, wk, wkR]) rfl trivial ?_
 simp -implicitDefEqProofs only [rX,ofConst,↓reduceIte,Nat.reduceEqDiff]
 refine call_is (ok10 sj0 kk 1 [(0, 10)] v0 (f_of (by decide)) (by decide) (by decide)) (by simp [lendsOk, lendOk, lends, lend, wkL, wk, wkR, sj0]) rfl trivial ?_
 rw [s1]
 simp -implicitDefEqProofs only [rX,↓rY,rdK,ofConst,cells?,splice,↓reduceIte,Nat.reduceEqDiff,Nat.reduceAdd,freshP,isC,yC,yB,yA]
 refine call_is (ok36 5 15) (by simp [lendsOk, lendOk, lends, lend, wkL, wk, wkR]) rfl trivial ?_
 simp -implicitDefEqProofs only [rX,ofConst,↓reduceIte,Nat.reduceEqDiff]
 refine call_is (ok10 sj1 kk 2 [(5, 15)] v1 (f_of (by decide)) (by decide) (by decide)) (by simp [lendsOk, lendOk, lends, lend, wkL, wk, wkR]) rfl trivial ?_
 rw [s2]
 simp -implicitDefEqProofs only [rX,↓rY,rdK,ofConst,cells?,splice,↓reduceIte,Nat.reduceEqDiff,Nat.reduceAdd,isC,yC,yB,yA]
 refine call_is (ok36 0 3) (by simp [lendsOk, lendOk, lends, lend, wkL, wk, wkR]) rfl trivial ?_
 simp -implicitDefEqProofs only [rX,ofConst,↓reduceIte,Nat.reduceEqDiff]
 refine call_is (ok10 sj2 kk 3 [(0, 3)] v2 (f_of (by decide)) (by decide) (by decide)) (by simp [lendsOk, lendOk, lends, lend, wkL, wk, wkR]) rfl trivial ?_
 rw [s3]
 simp -implicitDefEqProofs only [rX,↓rY,rdK,ofConst,cells?,splice,↓reduceIte,Nat.reduceEqDiff,Nat.reduceAdd,freshP,buildP,resP,tupV,wfV,isC,Nat.reduceLeDiff,ft_len,ft_t,yC,yB,yA,bne_self_eq_false,ge0]
 simp -implicitDefEqProofs only [rX,↓rY,yA,n11,n00,Int.reduceLE]
 intro _ _ _
 refine ⟨by decide, by decide, ?_⟩
 rw [fe1, eq_ft, show decide ((⟨1, (0, 10)⟩ : Fet) = ⟨1, (0, 10)⟩) = true from rfl]
 simp -implicitDefEqProofs only [rX,↓rY]
 refine ⟨by decide, by decide, ?_⟩
 rw [fe1, eq_ft, show decide ((⟨2, (10, 15)⟩ : Fet) = ⟨2, (10, 15)⟩) = true from rfl]
 simp -implicitDefEqProofs only [rX,↓rY]
 have hL : ∀ {h : List Blk} {a : Nat → Option Nat}, lendsOk h a [.agg [.i sj3.last, miss sj3.l], sv kk, .i 1, spans [(0, 10)]] ∧ wkL [.agg sj3.enc, sv kk, .i 1, spans [(0, 10)]] (lends h a [.agg [.i sj3.last, miss sj3.l], sv kk, .i 1, spans [(0, 10)]]) := fun {h} {a} => by simp [lendsOk, lendOk, lends, lend, wkL, wk, wkR]
 refine And.intro ?_ ?_
 all_goals refine call_is (ok36 0 10) (by simp [lendsOk, lendOk, lends, lend, wkL, wk, wkR]) rfl trivial ?_
 all_goals simp -implicitDefEqProofs only [rX,↓rY,ofConst,cells?,↓reduceIte,Nat.reduceEqDiff,freshP,yA]
 all_goals (repeat' refine And.intro ?_ ?_)
 all_goals refine call_is (ok18 sj3 kk 1 [(0, 10)] v3 (f_of (by decide))) (by simp [lendsOk, lendOk, lends, lend, wkL, wk, wkR]) rfl trivial ?_
 all_goals rw [s4a, s4b, s4c]
 all_goals generalize (comeP sj3 kk 1 [(0, 10)]).1.1 = ja
 all_goals simp -implicitDefEqProofs only [rX,↓rY,rdK,ofConst,cells?,splice,↓reduceIte,Nat.reduceEqDiff,Nat.reduceAdd,freshP,isC,yC,yB,yA]
 all_goals refine And.intro ?_ ?_
 all_goals refine call_is (ok36 0 4) (by simp [lendsOk, lendOk, lends, lend, wkL, wk, wkR]) rfl trivial ?_
 all_goals simp -implicitDefEqProofs only [rX,↓rY,ofConst,cells?,↓reduceIte,Nat.reduceEqDiff,freshP,yA]
 all_goals (repeat' refine And.intro ?_ ?_)
 all_goals refine call_is (ok18 sj3 kk 1 [(0, 4)] v3 (f_of (by decide))) (by simp [lendsOk, lendOk, lends, lend, wkL, wk, wkR]) rfl trivial ?_
 all_goals rw [s5a, s5b, s5c]
 all_goals generalize (comeP sj3 kk 1 [(0, 4)]).1.1 = jb
 all_goals simp -implicitDefEqProofs only [rX,↓rY,ofConst,cells?,splice,↓reduceIte,Nat.reduceEqDiff,Nat.reduceAdd,freshP,isC,yC,yB,yA]
 all_goals refine call_is (ok20 sj3 kk 2 v3 (f_of (by decide))) (by simp [lendsOk, lendOk, lends, lend, wkL, wk, wkR]) rfl trivial ?_
 all_goals rw [s6a, s6b, s6c]
 all_goals generalize (failP sj3 kk 2).1.1 = jc
 all_goals simp -implicitDefEqProofs only [rX,↓rY,ofConst,cells?,splice,↓reduceIte,Nat.reduceEqDiff,Nat.reduceAdd,freshP,isC,yC,yB,yA]
 all_goals refine call_is (ok15 sj3 kk 2 v3 (f_of (by decide))) (by simp [lendsOk, lendOk, lends, lend, wkL, wk, wkR]) rfl trivial ?_
 all_goals rw [s7a, s7b]
 all_goals generalize (leaveP sj3 kk 2).1.1 = jd
 all_goals simp -implicitDefEqProofs only [rX,↓rY,ofConst,cells?,splice,↓reduceIte,Nat.reduceEqDiff,Nat.reduceAdd,freshP,buildP,litsP,resP,tupV,wfV,isD,isC,Nat.reduceLT,Nat.reduceLeDiff,ft_len,ft_t,yC,yB,yA,bne_self_eq_false,n11,n00,ge0]
 all_goals intro _ _ _
 all_goals refine ⟨by decide, by decide, ?_⟩
 all_goals rw [fe1, eq_ft, show decide ((⟨3, (4, 10)⟩ : Fet) = ⟨3, (4, 10)⟩) = true from rfl]
 all_goals simp -implicitDefEqProofs only [rX,↓rY]
 all_goals refine call_is (ok17b [1, 3]) (by simp [lendsOk, lendOk, lends, lend, wkL, wk, wkR, wkB, blk, encI]) rfl trivial ?_
 all_goals simp -implicitDefEqProofs only [rX,↓rY,ofConst,cells?,↓reduceIte,Nat.reduceEqDiff,Nat.reduceAdd,freshP,litsP,isD,Nat.reduceLT,yA]
 all_goals refine call_is (ok17b [3]) (by simp [lendsOk, lendOk, lends, lend, wkL, wk, wkR, wkB, blk, encI]) rfl trivial ?_
 all_goals simp -implicitDefEqProofs only [rX,↓rY,ofConst,cells?,↓reduceIte,Nat.reduceEqDiff,Nat.reduceAdd,freshP,litsP,isD,Nat.reduceLT,yA]
 all_goals refine call_is (ok17b [2]) (by simp [lendsOk, lendOk, lends, lend, wkL, wk, wkR, wkB, blk, encI]) rfl trivial ?_
 all_goals simp -implicitDefEqProofs only [rX,↓rY,ofConst,cells?,↓reduceIte,Nat.reduceEqDiff,Nat.reduceAdd,freshP,litsP,isD,Nat.reduceLT,yA]
 all_goals refine call_is (ok17b [2]) (by simp [lendsOk, lendOk, lends, lend, wkL, wk, wkR, wkB, blk, encI]) rfl trivial ?_
 all_goals simp -implicitDefEqProofs only [rX,↓rY,↓reduceIte,Nat.reduceEqDiff,Nat.reduceAdd,yB,yA]
 all_goals refine call_is (ok26 sj3 (by decide) (by decide)) (by simp [lendsOk, lendOk, lends, lend, wkL, wk, wkR, wkB]) rfl trivial ?_
 all_goals rw [show nWait sj3.l = 3 from rfl]
 all_goals simp -implicitDefEqProofs only [rX,↓rY,ofConst,↓reduceIte,Nat.reduceEqDiff,resP,tupV,wfV,yA]
 all_goals rfl
end Go.Fx.J
namespace Go.Fx.J
open Go Go.Fx Go.Proofs Go.Fx.R
set_option maxRecDepth 20000
def fewM (m : Mis) : Bool := (decide (m.wt.length ≤ 12) && decide (m.fl.length ≤ 12) && decide (m.key.length ≤ 100)) && m.wt.all fun w => decide (w.need.length ≤ 8)
def fewB (j : Jns) : Bool := decide (j.l.length ≤ 8) && j.l.all fewM
theorem all_no {α : Type} {p : α → Bool} {l : List α} {k : Nat} (hk : k < l.length) (h : p l[k] = false) : l.all p = false := by
 rw [List.all_eq_false]
 exact ⟨_, yK hk, by rw [h]; simp⟩
theorem all_yes {α : Type} {p : α → Bool} {l : List α} (h : ∀ i (hi : i < l.length), p l[i] = true) : l.all p = true := by
 rw [vS]
 intro x hx
 obtain ⟨i, hi, rfl⟩ := yO hx
 exact h i hi
theorem ok31 (j : Jns) : Ok 31 [.agg j.enc] (Is (.b (fewB j))) := by
 refine ok_of lw31 (by simp) ?_
 unfold c31
 simp -implicitDefEqProofs only [rX,↓rY,ofConst,cells?,↓reduceIte,Nat.reduceEqDiff,freshP,resP,tupV,wfV,cxN,yA,args0]
 intro _
 cases h0 : decide ((8 : Int) < (j.l.length : Int)) with
 | true =>
  have hf : fewB j = false := by
   have := of_decide_eq_true h0
   unfold fewB
   rw [decide_eq_false (by omega)]; rfl
  simp -implicitDefEqProofs only [↓rY,hf]
 | false =>
  have h0' : j.l.length ≤ 8 := by have := of_decide_eq_false h0; omega
  have hB : fewB j = j.l.all fewM := by unfold fewB; rw [decide_eq_true h0']; rfl
  rw [hB]
  simp -implicitDefEqProofs only [↓rY]
  refine loopP_intro (fun k : Nat => ⟨[(3, .i k), (1, .ptr 0 0 0)], [.var j.enc], 1⟩) (fun k => k ≤ j.l.length ∧ ∀ i (h : i < j.l.length), i < k → fewM j.l[i] = true) (fun k => j.l.length - k) 0 ⟨by omega, fun _ _ h => by omega⟩ ?_ ?_
  ·simp -implicitDefEqProofs only [rX,↓reduceIte,Nat.reduceEqDiff,leE,leH,leB,leV,leVs,keepP,liveP,wfE,wfB,wfV,wfL,yT]
  rintro k ⟨hk, hno⟩
  unfold c31l0
  rcases yN k j.l.length with hk' | hk'
  ·have hd : decide ((k : Int) < (j.l.length : Int)) = true := decide_eq_true (by omega)
   have hkk : (0 : Int) ≤ k ∧ (k : Int) < j.l.length := ⟨by omega, by omega⟩
   simp -implicitDefEqProofs only [rX,↓rY,ofConst,cells?,splice,↓reduceIte,Nat.reduceEqDiff,Nat.reduceAdd,freshP,resP,tupV,wfV,sb_size,k_nil,ms_len,ms_t,ms_0,ms_1,ms_2,ms_C,yC,yA,hd]
   refine fun _ => ⟨hkk, hk', ?_⟩
   have hM : ∀ b, b = false → fewM j.l[k] = b → j.l.all fewM = false := fun b hb h => all_no hk' (by rw [h, hb])
   obtain ⟨m, hme⟩ : ∃ m, j.l[k] = m := ⟨_, rfl⟩
   rw [hme] at hM ⊢
   intro _
   cases a1 : decide ((12 : Int) < (m.wt.length : Int)) with
   | true =>
    have a1' := of_decide_eq_true a1
    simp -implicitDefEqProofs only [↓rY]
    exact (hM false rfl (by unfold fewM; rw [decide_eq_false (show ¬ m.wt.length ≤ 12 by omega)]; rfl)).symm
   | false =>
   have a1' := of_decide_eq_false a1
   simp -implicitDefEqProofs only [↓rY]
   intro _
   cases a2 : decide ((12 : Int) < (m.fl.length : Int)) with
   | true =>
    have a2' := of_decide_eq_true a2
    simp -implicitDefEqProofs only [↓rY]
    exact (hM false rfl (by unfold fewM; rw [decide_eq_false (show ¬ m.fl.length ≤ 12 by omega), Bool.and_false]; rfl)).symm
   | false =>
   have a2' := of_decide_eq_false a2
   simp -implicitDefEqProofs only [↓rY]
   cases a3 : decide ((100 : Int) < (m.key.length : Int)) with
   | true =>
    have a3' := of_decide_eq_true a3
    simp -implicitDefEqProofs only [↓rY]
    exact (hM false rfl (by unfold fewM; rw [decide_eq_false (show ¬ m.key.length ≤ 100 by omega), Bool.and_false]; rfl)).symm
   | false =>
   have a3' := of_decide_eq_false a3
   have hFM : fewM m = m.wt.all fun w => decide (w.need.length ≤ 8) := by
    unfold fewM
    rw [decide_eq_true (show m.wt.length ≤ 12 by omega), decide_eq_true (show m.fl.length ≤ 12 by omega), decide_eq_true (show m.key.length ≤ 100 by omega)]; rfl
   rw [hFM] at hM
   simp -implicitDefEqProofs only [↓rY]
   refine loopP_intro (fun i : Nat => ⟨[(5, .i i), (4, .ptr 1 0 0), (3, .i k), (1, .ptr 0 0 0)], [.var j.enc, .var m.enc], 2⟩) (fun i => i ≤ m.wt.length ∧ ∀ n (h : n < m.wt.length), n < i → m.wt[n].need.length ≤ 8) (fun i => m.wt.length - i) 0 ⟨by omega, fun _ _ h => by omega⟩ ?_ ?_
   ·simp -implicitDefEqProofs only [rX,↓reduceIte,Nat.reduceEqDiff,leE,leH,leB,leV,leVs,keepP,liveP,wfE,wfB,wfV,wfL,ms_wf,ms_le,yT]
   rintro i ⟨hi0, hni⟩
   unfold c31l1
   rcases yN i m.wt.length with hi' | hi'
   ·have hd : decide ((i : Int) < (m.wt.length : Int)) = true := decide_eq_true (by omega)
    simp -implicitDefEqProofs only [rX,↓rY,ofConst,↓reduceIte,Nat.reduceEqDiff,Nat.reduceAdd,resP,tupV,leE,leH,leB,leV,leVs,keepP,liveP,wfE,wfB,wfV,wfL,wt_1,ms_2,ms_wf,ms_le,yA,hd]
    refine fun _ => ⟨⟨by omega, by omega⟩, hi', fun _ => ?_⟩
    cases a4 : decide ((8 : Int) < (m.wt[i].need.length : Int)) with
    | true =>
     have a4' := of_decide_eq_true a4
     simp -implicitDefEqProofs only [↓rY]
     exact (hM false rfl (all_no hi' (decide_eq_false (by omega)))).symm
    | false =>
     have a4' := of_decide_eq_false a4
     simp -implicitDefEqProofs only [↓rY]
     exact ⟨by simp only [lo, hi]; omega, i + 1, ⟨⟨by omega, fun n hn hlt => by
      by_cases e : n = i
      ·subst e; omega
      ·exact hni n hn (by omega)⟩, by omega⟩, by omega⟩
   ·have hd : decide ((i : Int) < (m.wt.length : Int)) = false := decide_eq_false (by omega)
    simp -implicitDefEqProofs only [rX,↓rY,ofConst,↓reduceIte,Nat.reduceEqDiff,Nat.reduceAdd,leE,leH,leB,leV,leVs,keepP,liveP,wfE,wfB,wfV,wfL,ms_2,yA,hd]
    refine fun _ => ⟨by simp only [lo, hi]; omega, k + 1, ⟨⟨by omega, fun n hn hlt => ?_⟩, by omega⟩, by omega⟩
    by_cases e : n = k
    ·subst e
     rw [hme, hFM]
     exact all_yes fun n hn => decide_eq_true (hni n hn (by omega))
    ·exact hno n hn (by omega)
  ·have hd : decide ((k : Int) < (j.l.length : Int)) = false := decide_eq_false (by omega)
   have ha : j.l.all fewM = true := all_yes fun i hi => hno i hi (by omega)
   simp -implicitDefEqProofs only [rX,↓rY,ofConst,↓reduceIte,Nat.reduceEqDiff,resP,tupV,wfV,k_nil,hd,ha]
   exact fun _ => trivial
end Go.Fx.J
namespace Go.Fx.J
open Go Go.Fx Go.Proofs Go.Fx.R
set_option maxRecDepth 20000
theorem fewB_1 {j : Jns} (h : fewB j = true) : j.l.length ≤ 8 ∧ ∀ m ∈ j.l, m.wt.length ≤ 12 ∧ m.fl.length ≤ 12 ∧ m.key.length ≤ 100 ∧ ∀ w ∈ m.wt, w.need.length ≤ 8 := by
 unfold fewB at h
 simp only [Bool.and_eq_true, decide_eq_true_eq, vS] at h
 refine ⟨h.1, fun m hm => ?_⟩
 have := h.2 m hm
 unfold fewM at this
 simp only [Bool.and_eq_true, decide_eq_true_eq, vS] at this
 exact ⟨this.1.1.1, this.1.1.2, this.1.2, this.2⟩
theorem few1_of {j : Jns} (h : fewB j = true) : Few1 j := ⟨by have := (fewB_1 h).1; omega, fun m hm => by have := (fewB_1 h).2 m hm; omega⟩
theorem find_pos {l : List Mis} {k : S} (ho : l.Pairwise fun a b => a.key < b.key) : findR l k = if l.any (eqM k) = true then (posN (ltM k) l : Int) else -1 := by
 unfold findR
 have he : (fun m : Mis => decide (m.key = k)) = eqM k := rfl
 rw [he]
 by_cases h : l.any (eqM k) = true
 ·rw [dif_pos h, if_pos h]
  obtain ⟨hp, hk⟩ := posN_any ho h
  congr 1
  rw [List.findIdx_eq hp]
  refine ⟨decide_eq_true hk, fun i hi => decide_eq_false fun e => ?_⟩
  have := uU.1 ho i (posN (ltM k) l) (by omega) hp hi
  rw [hk, e] at this
  exact s_irr k this
 ·rw [dif_neg h, if_neg h]
end Go.Fx.J
namespace Go.Fx.J
open Go Go.Fx Go.Proofs Go.Fx.R
theorem fn_of {f : FuncId} {xs : List V} (h : Ok f xs (Is (.b true))) : Fn Tryz.prog f xs [] [] (fun r _ => r = .b true) := by
 have h := h.2
 intro ρ X w vals h1 h2
 refine Calls.mono (h ρ X w vals h1 h2) ?_
 rintro e w' ⟨val, r, h', ρ', q1, q2, q3, q4, q5, q6⟩
 exact ⟨val, r, h', ρ', q1, ⟨q2.1.1, q2.2⟩, q3, q4, q5, q6⟩
theorem ex_mapP {α β : Type} {g : α → β} : ∀ {els : List β}, (∀ x ∈ els, ∃ a, x = g a) → ∃ l : List α, els = l.map g
 | [], _ => ⟨[], rfl⟩
 | x :: r, h => by
  obtain ⟨a, rfl⟩ := h x uM
  obtain ⟨l, rfl⟩ := ex_mapP (els := r) fun y hy => h y (uN _ hy)
  exact ⟨a :: l, rfl⟩
abbrev tSp : Fx.T := .st [.int .i64, .int .i64]
abbrev tSps : Fx.T := .sl 2 tSp
abbrev tFet : Fx.T := .st [.int .i64, tSp]
abbrev tWai : Fx.T := .st [.int .i64, tSps]
abbrev tMis : Fx.T := .st [.str, .sl 3 tFet, .sl 2 tWai]
abbrev tJns : Fx.T := .st [.int .i64, .sl 3 tMis]
theorem wf_int {k : IntKind} {x : List V} (h : WfT (.int k) x) : ∃ n : Int, x = [.v (.int k n)] ∧ lo k ≤ n ∧ n ≤ hi k := by
 simpa only [WfT] using h
theorem wf_cons {t : Fx.T} {ts : List Fx.T} {x : List V} (h : WfTs (t :: ts) x) : ∃ a b, x = a ++ b ∧ WfT t a ∧ WfTs ts b := by
 rwa [WfTs.eq_2] at h
theorem wf_str {x : List V} (h : WfT .str x) : ∃ s : S, x = [sv s] ∧ s.length ≤ maxLen := by
 rw [WfT] at h
 obtain ⟨b, rfl, hb⟩ := h
 obtain ⟨l, rfl⟩ := sb_ex (b := b)
 exact ⟨l, rfl, hb⟩
theorem wf_sp {x : List V} (h : WfT tSp x) : ∃ s : Sp, x = enS s := by
 rw [WfT] at h
 obtain ⟨_, _, rfl, q0, h⟩ := wf_cons h
 obtain ⟨_, _, rfl, q1, h⟩ := wf_cons h
 rw [WfTs.eq_1] at h
 subst h
 obtain ⟨n0, rfl, _⟩ := wf_int q0
 obtain ⟨n1, rfl, _⟩ := wf_int q1
 exact ⟨(n0, n1), rfl⟩
theorem wf_sps {x : List V} (h : WfT tSps x) : ∃ l : List Sp, x = [spans l] := by
 rw [WfT] at h
 obtain ⟨els, rfl, _, he⟩ := h
 obtain ⟨l, rfl⟩ := ex_mapP (g := enS) fun x hx => wf_sp (he x hx)
 exact ⟨l, rfl⟩
theorem wf_fet {x : List V} (h : WfT tFet x) : ∃ f : Fet, x = f.enc := by
 rw [WfT] at h
 obtain ⟨_, _, rfl, q0, h⟩ := wf_cons h
 obtain ⟨_, _, rfl, q1, h⟩ := wf_cons h
 rw [WfTs.eq_1] at h
 subst h
 obtain ⟨n0, rfl, _⟩ := wf_int q0
 obtain ⟨s, rfl⟩ := wf_sp q1
 exact ⟨⟨n0, s⟩, rfl⟩
theorem wf_wai {x : List V} (h : WfT tWai x) : ∃ f : Wai, x = f.enc := by
 rw [WfT] at h
 obtain ⟨_, _, rfl, q0, h⟩ := wf_cons h
 obtain ⟨_, _, rfl, q1, h⟩ := wf_cons h
 rw [WfTs.eq_1] at h
 subst h
 obtain ⟨n0, rfl, _⟩ := wf_int q0
 obtain ⟨s, rfl⟩ := wf_sps q1
 exact ⟨⟨n0, s⟩, rfl⟩
theorem wf_mis {x : List V} (h : WfT tMis x) : ∃ m : Mis, x = m.enc := by
 rw [WfT] at h
 obtain ⟨_, _, rfl, q0, h⟩ := wf_cons h
 obtain ⟨_, _, rfl, q1, h⟩ := wf_cons h
 obtain ⟨_, _, rfl, q2, h⟩ := wf_cons h
 rw [WfTs.eq_1] at h
 subst h
 obtain ⟨s, rfl, _⟩ := wf_str q0
 rw [WfT] at q1 q2
 obtain ⟨e1, rfl, _, h1⟩ := q1
 obtain ⟨e2, rfl, _, h2⟩ := q2
 obtain ⟨l1, rfl⟩ := ex_mapP (g := Fet.enc) fun x hx => wf_fet (h1 x hx)
 obtain ⟨l2, rfl⟩ := ex_mapP (g := Wai.enc) fun x hx => wf_wai (h2 x hx)
 exact ⟨⟨s, l1, l2⟩, rfl⟩
theorem wv_jns {x : V} (h : WfV tJns x) : ∃ j : Jns, x = .agg j.enc := by
 obtain ⟨cs, h, rfl⟩ := h
 obtain ⟨_, _, rfl, q0, h⟩ := wf_cons h
 obtain ⟨_, _, rfl, q1, h⟩ := wf_cons h
 rw [WfTs.eq_1] at h
 subst h
 obtain ⟨n0, rfl, _⟩ := wf_int q0
 rw [WfT] at q1
 obtain ⟨e1, rfl, _, h1⟩ := q1
 obtain ⟨l1, rfl⟩ := ex_mapP (g := Mis.enc) fun x hx => wf_mis (h1 x hx)
 exact ⟨⟨n0, l1⟩, rfl⟩
theorem wv_str {x : V} (h : WfV .str x) : ∃ s : S, x = sv s := by
 obtain ⟨s, hs, _⟩ := wf_str h
 exact ⟨s, by simpa using hs⟩
end Go.Fx.J
namespace Go.Fx.J
open Go Go.Fx Go.Proofs Go.Fx.R
structure JSt (last : Int) (L : List Mis) (k : Nat) : Prop where
 lo : 0 ≤ last ∧ last ≤ 1152921504606846976
 hk : k < L.length
 o : L.Pairwise fun a b => a.key < b.key
 u : (ids L).Nodup
 m : ∀ i (h : i < L.length), i ≠ k → MOk last L[i]
 b : ∀ f ∈ (L[k]'hk).fl, f.id ≤ last
theorem jok_st {j : Jns} (h : JOk j) {k : Nat} (hk : k < j.l.length) : JSt j.last j.l k :=
 ⟨h.lo, hk, h.o, h.u, fun i hi _ => h.m _ (yK hi), fun f hf => ((h.m _ (yK hk)).f f hf).2.2⟩
theorem min_mono {last last' : Int} {m : Mis} (h : MIn last m) (hl : last ≤ last') : MIn last' m :=
 ⟨h.k, h.n, h.w, h.wo, fun f hf => ⟨(h.f f hf).1, (h.f f hf).2.1, by have := (h.f f hf).2.2; omega⟩, h.fo, h.c, h.d⟩
theorem mok_mono {last last' : Int} {m : Mis} (h : MOk last m) (hl : last ≤ last') : MOk last' m := ⟨min_mono h.toMIn hl, h.n1⟩
theorem ids_app {a b : List Mis} : ids (a ++ b) = ids a ++ ids b := by unfold ids; rw [List.flatMap_append]
theorem ids_cons {a : Mis} {b : List Mis} : ids (a :: b) = a.fl.map (·.id) ++ ids b := by unfold ids; rw [List.flatMap_cons]
theorem ids_mem {l : List Mis} {x : Int} : x ∈ ids l ↔ ∃ m ∈ l, ∃ f ∈ m.fl, f.id = x := by
 unfold ids
 rw [List.mem_flatMap]
 constructor
 ·rintro ⟨m, hm, h⟩
  obtain ⟨f, hf, rfl⟩ := yQ.1 h
  exact ⟨m, hm, f, hf, rfl⟩
 ·rintro ⟨m, hm, f, hf, rfl⟩
  exact ⟨m, hm, uW hf⟩
theorem split_at {l : List Mis} {k : Nat} (hk : k < l.length) : l = l.take k ++ l[k] :: l.drop (k + 1) := by
 rw [← uQ hk, uC]
theorem set_at {l : List Mis} {k : Nat} {x : Mis} (hk : k < l.length) : l.set k x = l.take k ++ x :: l.drop (k + 1) := List.set_eq_take_append_cons_drop.trans (if_pos hk)
theorem JSt.set {last last' : Int} {L : List Mis} {k : Nat} (h : JSt last L k) (hn : L.length ≤ 1000) (hl : last ≤ last' ∧ last' ≤ 1152921504606846976) {m' : Mis} (hm : MOk last' m') (hkey : m'.key = (L[k]'h.hk).key) (hid : (m'.fl.map (·.id)).Nodup)
  (hfr : ∀ f ∈ m'.fl, (∃ g ∈ (L[k]'h.hk).fl, g.id = f.id) ∨ last < f.id) : JOk ⟨last', L.set k m'⟩ := by
 have hk := h.hk
 refine ⟨(⟨by have := h.lo; omega, hl.2⟩ : 0 ≤ last' ∧ last' ≤ 1152921504606846976), by simpa using hn, fun m hmem => ?_, ?_, ?_⟩
 ·obtain ⟨i, hi, rfl⟩ := yO hmem
  rw [List.getElem_set]
  split
  ·exact hm
  ·rename_i hne
   exact mok_mono (h.m i (by simpa using hi) (fun e => hne e.symm)) hl.1
 ·have ho := h.o
  rw [uU] at ho ⊢
  intro a b ha hb hab
  have key : ∀ i (hi : i < L.length), ((L.set k m')[i]'(by simpa using hi)).key = L[i].key := fun i hi => by
   rw [List.getElem_set]
   split
   ·rename_i e; subst e; exact hkey
   ·rfl
  simp only [List.length_set] at ha hb
  rw [key a ha, key b hb]
  exact ho a b ha hb hab
 ·have hu := h.u
  rw [split_at hk, ids_app, ids_cons, yW, yW] at hu
  obtain ⟨u1, ⟨u2, u3, u4⟩, u5⟩ := hu
  show (ids (L.set k m')).Nodup
  rw [set_at hk, ids_app, ids_cons, yW, yW]
  have hold : ∀ x, (x ∈ ids (L.take k) ∨ x ∈ ids (L.drop (k + 1))) → x ≤ last := by
   intro x hx
   have hmm : ∃ i, ∃ hi : i < L.length, i ≠ k ∧ ∃ f ∈ L[i].fl, f.id = x := by
    rcases hx with hx | hx
    ·obtain ⟨m, hm, f, hf, e⟩ := ids_mem.1 hx
     obtain ⟨i, hi, rfl⟩ := yO hm
     rw [uK] at hi
     rw [uB] at hf
     exact ⟨i, by omega, by omega, f, hf, e⟩
    ·obtain ⟨m, hm, f, hf, e⟩ := ids_mem.1 hx
     obtain ⟨i, hi, rfl⟩ := yO hm
     rw [uV] at hi
     rw [vY] at hf
     exact ⟨k + 1 + i, by omega, by omega, f, hf, e⟩
   obtain ⟨i, hi, hne, f, hf, rfl⟩ := hmm
   exact ((h.m i hi hne).f f hf).2.2
  refine ⟨u1, ⟨hid, u3, fun a ha b hb => ?_⟩, fun a ha b hb => ?_⟩
  ·obtain ⟨f, hf, rfl⟩ := yQ.1 ha
   rcases hfr f hf with ⟨g, hg, e⟩ | hlt
   ·exact u4 _ (by rw [← e]; exact uW hg) _ hb
   ·have := hold b (.inr hb)
    exact fun e => by rw [e] at hlt; omega
  ·rcases yS.1 hb with hb | hb
   ·obtain ⟨f, hf, rfl⟩ := yQ.1 hb
    rcases hfr f hf with ⟨g, hg, e⟩ | hlt
    ·exact u5 _ ha _ (yS.2 (.inl (by rw [← e]; exact uW hg)))
    ·have := hold a (.inl ha)
     exact fun e => by rw [← e] at hlt; omega
   ·exact u5 _ ha _ (yS.2 (.inr hb))
theorem JSt.less {last last' : Int} {L : List Mis} {k : Nat} (h : JSt last L k) (hn : L.length ≤ 1001) (hl : last ≤ last' ∧ last' ≤ 1152921504606846976) : JOk ⟨last', lessL L k⟩ := by
 have hk := h.hk
 refine ⟨(⟨by have := h.lo; omega, hl.2⟩ : 0 ≤ last' ∧ last' ≤ 1152921504606846976), ?_, fun m hmem => ?_, less_pair h.o, ?_⟩
 ·show (lessL L k).length ≤ 1000
  unfold lessL; simp; omega
 ·have hmem : m ∈ lessL L k := hmem
  rcases yS.1 hmem with hm | hm
  ·obtain ⟨i, hi, rfl⟩ := yO hm
   rw [uK] at hi
   rw [uB]
   exact mok_mono (h.m i (by omega) (by omega)) hl.1
  ·obtain ⟨i, hi, rfl⟩ := yO hm
   rw [uV] at hi
   rw [vY]
   exact mok_mono (h.m (k + 1 + i) (by omega) (by omega)) hl.1
 ·have hu := h.u
  rw [split_at hk, ids_app, ids_cons, yW, yW] at hu
  obtain ⟨u1, ⟨u2, u3, u4⟩, u5⟩ := hu
  show (ids (lessL L k)).Nodup
  unfold lessL
  rw [ids_app, yW]
  exact ⟨u1, u3, fun a ha b hb => u5 a ha b (yS.2 (.inr hb))⟩
end Go.Fx.J
namespace Go.Fx.J
open Go Go.Fx Go.Proofs Go.Fx.R
structure Pre (last : Int) (key : S) (fl : List Fet) (wt : List Wai) : Prop where
 k : key.length ≤ 4096
 n : wt.length ≤ 1000
 w : ∀ w ∈ wt, Vs w.need ∧ w.need ≠ []
 wo : wt.Pairwise fun a b => a.id < b.id
 f : ∀ f ∈ fl, (0 ≤ f.sp.1 ∧ f.sp.1 < f.sp.2 ∧ f.sp.2 ≤ 1099511627776) ∧ 1 ≤ f.id ∧ f.id ≤ last
 fo : fl.Pairwise fun a b => a.sp.2 ≤ b.sp.1
 d : ∀ x, inS (needed ⟨key, fl, wt⟩) x → inS (flown ⟨key, fl, wt⟩) x
theorem kept_mem {need : List Sp} {fl : List Fet} {f : Fet} : f ∈ keptD (goF need) fl ↔ f ∈ fl ∧ common need f.sp = true := by
 unfold keptD goF
 rw [vV]
 simp
theorem Pre.clean {last : Int} {key : S} {fl : List Fet} {wt : List Wai} (h : Pre last key fl wt) (hne : wt ≠ []) : MOk last ⟨key, keptD (goF (needed ⟨key, fl, wt⟩)) fl, wt⟩ := by
 have hsep : Sep (needed ⟨key, fl, wt⟩) := sep_need
 refine ⟨⟨h.k, h.n, h.w, h.wo, fun f hf => h.f f (kept_mem.1 hf).1, h.fo.sublist xD, fun f hf => ?_, fun x hx => ?_⟩, ?_⟩
 ·exact (common_iff hsep).1 (kept_mem.1 hf).2
 ·obtain ⟨f, hf, h1, h2⟩ := in_flown.1 (h.d x hx)
  exact in_flown.2 ⟨f, kept_mem.2 ⟨hf, (common_iff hsep).2 ⟨x, hx, h1, h2⟩⟩, h1, h2⟩
 ·cases wt with
  | nil => exact absurd rfl hne
  | cons a l => simp
theorem kept_ids {p : Fet → Bool} {fl : List Fet} (h : (fl.map (·.id)).Nodup) : ((keptD p fl).map (·.id)).Nodup := h.sublist (List.filter_sublist.map _)
theorem clean_jok {last last' : Int} {L : List Mis} {k : Nat} {key : S} {fl : List Fet} {wt : List Wai} (h : JSt last L k) (hn : L.length ≤ 1000) (hl : last ≤ last' ∧ last' ≤ 1152921504606846976) (hp : Pre last' key fl wt) (hkey : key = (L[k]'h.hk).key) (hid : (fl.map (·.id)).Nodup)
  (hfr : ∀ f ∈ fl, (∃ g ∈ (L[k]'h.hk).fl, g.id = f.id) ∨ last < f.id) : JOk ⟨last', cleanL L k key fl wt⟩ := by
 unfold cleanL
 split
 ·exact h.less (by omega) hl
 ·rename_i hne
  exact h.set hn hl (hp.clean hne) hkey (kept_ids hid) fun f hf => hfr f (kept_mem.1 hf).1
theorem ids_row {j : Jns} (h : JOk j) {k : Nat} (hk : k < j.l.length) : (j.l[k].fl.map (·.id)).Nodup := by
 have hu := h.u
 rw [split_at hk, ids_app, ids_cons, yW, yW] at hu
 exact hu.2.1.1
theorem lessL_map {α β : Type} {f : α → β} {l : List α} {k : Nat} : lessL (l.map f) k = (lessL l k).map f := by
 unfold lessL
 rw [yI, vN, vT]
theorem less_or {l : List Fet} {i : Nat} (hi : i < l.length) {f : Fet} (hf : f ∈ l) : f = l[i] ∨ f ∈ lessL l i := by
 have : f ∈ l.take i ++ l[i] :: l.drop (i + 1) := by rw [← uQ hi, uC]; exact hf
 rcases yS.1 this with h | h
 ·exact .inr (yS.2 (.inl h))
 ·rcases List.mem_cons.1 h with h | h
  ·exact .inl h
  ·exact .inr (yS.2 (.inr h))
theorem fail_jok {j : Jns} (h : JOk j) (key : S) (id : Int) : JOk (failP j key id).1.1 := by
 unfold failP
 split
 ·exact h
 ·rename_i h1
  split
  ·exact h
  ·rename_i h2
   obtain ⟨hk, hkey⟩ := posN_any h.o (by simpa using h1)
   rw [mAt_eq hk] at h2 ⊢
   have hm := h.m _ (yK hk)
   have hi : j.l[posN (ltM key) j.l].fl.findIdx (eqF id) < j.l[posN (ltM key) j.l].fl.length := by
    obtain ⟨f, hf, he⟩ := vU.1 (by simpa using h2 : _ = true)
    exact uJ.2 ⟨f, hf, he⟩
   unfold failM
   rw [fAt_eq hi]
   refine clean_jok (jok_st h hk) h.n ⟨Int.le_refl _, h.lo.2⟩ ⟨by rw [← hkey]; exact hm.k, ?_, fun w hw => hm.w w (vV.1 hw).1, hm.wo.sublist xD, fun f hf => hm.f f (mem_less hf), less_pair hm.fo, fun x hx => ?_⟩ hkey.symm ?_ fun f hf => .inl ⟨f, mem_less hf, rfl⟩
   ·exact yP keptD_len hm.n
   ·obtain ⟨w, hw, hx⟩ := in_needed.1 hx
    obtain ⟨hw1, hw2⟩ := vV.1 hw
    obtain ⟨f, hf, a1, a2⟩ := in_flown.1 (hm.d x (in_needed.2 ⟨w, hw1, hx⟩))
    rcases less_or hi hf with rfl | hf
    ·unfold goW at hw2
     rw [(common_iff (hm.w w hw1).1.1).2 ⟨x, hx, a1, a2⟩] at hw2
     cases hw2
    ·exact in_flown.2 ⟨f, hf, a1, a2⟩
   ·rw [← lessL_map]
    exact less_pair (ids_row h hk)
end Go.Fx.J
namespace Go.Fx.J
open Go Go.Fx Go.Proofs Go.Fx.R
theorem split_M {l : List Mis} {k : S} (ho : l.Pairwise fun a b => a.key < b.key) : Split (ltM k) l := ho.imp fun {a b} h hb => decide_eq_true (s_trans h (of_decide_eq_true hb))
theorem news_ids {fl : List Fet} {last : Int} {l : List Sp} (hid : (fl.map (·.id)).Nodup) (hb : ∀ f ∈ fl, f.id ≤ last) : ((((newF last l).foldl insF fl)).map (·.id)).Nodup := by
 rw [(insFs_perm.map _).nodup_iff, yI, yW]
 refine ⟨hid, newF_nodup, fun a ha b hb' => ?_⟩
 obtain ⟨f, hf, rfl⟩ := yQ.1 ha
 obtain ⟨g, hg, rfl⟩ := yQ.1 hb'
 have := hb f hf
 have := (newF_mem hg).2.1
 omega
theorem news_mem {fl : List Fet} {last : Int} {l : List Sp} {f : Fet} : f ∈ (newF last l).foldl insF fl ↔ f ∈ fl ∨ f ∈ newF last l := by
 rw [insFs_perm.mem_iff, yS]
theorem newF_has : ∀ {l : List Sp} {last : Int} {s : Sp}, s ∈ l → ∃ f ∈ newF last l, f.sp = s := fun {l} {last} {s} h => by
 rw [← newF_sp (l := l) (last := last)] at h
 obtain ⟨f, hf, e⟩ := yQ.1 h
 exact ⟨f, hf, e⟩
theorem news_pre {last : Int} {key : S} {fl : List Fet} {wt : List Wai} {l : List Sp} (hk : key.length ≤ 4096) (hn : wt.length ≤ 1000) (hw : ∀ w ∈ wt, Vs w.need ∧ w.need ≠ []) (hwo : wt.Pairwise fun a b => a.id < b.id) (h0 : 0 ≤ last)
  (hf : ∀ f ∈ fl, (0 ≤ f.sp.1 ∧ f.sp.1 < f.sp.2 ∧ f.sp.2 ≤ 1099511627776) ∧ 1 ≤ f.id ∧ f.id ≤ last) (hfo : fl.Pairwise fun a b => a.sp.2 ≤ b.sp.1) (hl : Vs l) (hd : ∀ x, inS l x → ¬ inS (flown ⟨key, fl, wt⟩) x)
  (hc : ∀ x, inS (needed ⟨key, fl, wt⟩) x → inS (flown ⟨key, fl, wt⟩) x ∨ inS l x) : Pre (last + l.length) key ((newF last l).foldl insF fl) wt := by
 refine ⟨hk, hn, hw, hwo, fun f hff => ?_, ?_, fun x hx => ?_⟩
 ·rcases news_mem.1 hff with hff | hff
  ·have := hf f hff; omega
  ·have a := newF_mem hff
   have b := hl.2 _ a.1
   have c := hl.1.1 _ a.1
   omega
 ·have ha : Apt fl := apt_of (fun f hff => (hf f hff).1.2.1) hfo
  have hasc : Asc1 fl := uT (fun {a b} ha hb hr => by have := (hf a ha).1.2.1; omega) hfo
  have hA : Apt (fl ++ newF last l) := apt_new (m := ⟨key, fl, wt⟩) ha hl.1 hd
  exact Apt.ord (hA.perm insFs_perm.symm) (insFs_asc hasc)
 ·rcases hc x hx with h | h
  ·obtain ⟨f, hff, a1, a2⟩ := in_flown.1 h
   exact in_flown.2 ⟨f, news_mem.2 (.inl hff), a1, a2⟩
  ·obtain ⟨s, hs, a1, a2⟩ := h
   obtain ⟨f, hff, rfl⟩ := newF_has (last := last) hs
   exact in_flown.2 ⟨f, news_mem.2 (.inr hff), a1, a2⟩
end Go.Fx.J
namespace Go.Fx.J
open Go Go.Fx Go.Proofs Go.Fx.R
end Go.Fx.J
namespace Go.Fx.J
open Go Go.Fx Go.Proofs Go.Fx.R
theorem come_jok {j : Jns} (h : JOk j) (key : S) (id : Int) (got : List Sp) : JOk (comeP j key id got).1.1 := by
 unfold comeP
 split
 ·exact h
 ·rename_i h1
  split
  ·exact h
  ·rename_i h2
   split
   ·exact h
   ·rename_i h3
    have hgv : Vs got := vs_vd.2 (vd_iff.1 (by simpa using h3))
    obtain ⟨hk, hkey⟩ := posN_any h.o (by simpa using h1)
    rw [mAt_eq hk] at h2 ⊢
    have hm := h.m _ (yK hk)
    have hrow := ids_row h hk
    have hst := jok_st h hk
    generalize posN (ltM key) j.l = k at *
    obtain ⟨m, hme⟩ : ∃ m, j.l[k] = m := ⟨_, rfl⟩
    rw [hme] at h2 hm hrow hkey ⊢
    have hi : m.fl.findIdx (eqF id) < m.fl.length := by
     obtain ⟨f, hf, he⟩ := vU.1 (by simpa using h2 : _ = true)
     exact uJ.2 ⟨f, hf, he⟩
    generalize m.fl.findIdx (eqF id) = i at *
    unfold comeM
    split
    ·exact h
    ·rename_i h4
     have hlo := h.lo
     have hfa : fAt m i = m.fl[i] := fAt_eq hi
     have hfi := (hm.f _ (yK hi)).1
     have hspv : Vs [m.fl[i].sp] := vs_one hfi
     have hw : wantP key m i got = meetS (minusS [m.fl[i].sp] (hereP m i got)) (needed ⟨key, lessL m.fl i, comeR m.wt (hereP m i got)⟩) := by unfold wantP; rw [hfa]
     generalize hereP m i got = here at *
     have hvl : Vs (wantP key m i got) := by rw [hw]; exact Vs.meet (Vs.minus hspv)
     have hin : ∀ x, inS (wantP key m i got) x ↔ (inS [m.fl[i].sp] x ∧ ¬ inS here x) ∧ inS (needed ⟨key, lessL m.fl i, comeR m.wt here⟩) x := fun x => by rw [hw, in_meetS, in_minusS]
     generalize wantP key m i got = l at *
     have hone : ∀ x, inS [m.fl[i].sp] x ↔ m.fl[i].sp.1 ≤ x ∧ x < m.fl[i].sp.2 := fun x => by
      constructor
      ·rintro ⟨s, hs, a, b⟩
       obtain rfl : s = m.fl[i].sp := by simpa using hs
       exact ⟨a, b⟩
      ·rintro ⟨a, b⟩
       exact ⟨_, by simp, a, b⟩
     have hfb : ∀ f ∈ lessL m.fl i, (0 ≤ f.sp.1 ∧ f.sp.1 < f.sp.2 ∧ f.sp.2 ≤ 1099511627776) ∧ 1 ≤ f.id ∧ f.id ≤ j.last := fun f hf => hm.f f (mem_less hf)
     have hPre : Pre (j.last + l.length) key ((newF j.last l).foldl insF (lessL m.fl i)) (comeR m.wt here) := by
      refine news_pre (by rw [← hkey]; exact hm.k) (yP comeR_len hm.n) (fun w hw' => ?_) ?_ hlo.1 hfb (less_pair hm.fo) hvl (fun x hx hc => ?_) fun x hx => ?_
      ·obtain ⟨v, hv, hne, rfl⟩ := comeR_mem hw'
       exact ⟨Vs.minus (hm.w v hv).1, fun e => hne (by rw [show minusS v.need here = [] from e]; rfl)⟩
      ·unfold comeR
       rw [List.pairwise_filterMap]
       refine hm.wo.imp fun {a b} hab x hx y hy => ?_
       split at hx
       ·cases hx
       ·split at hy
        ·cases hy
        ·obtain rfl := Option.some.inj hx
         obtain rfl := Option.some.inj hy
         exact hab
      ·obtain ⟨f, hf, a1, a2⟩ := in_flown.1 hc
       have a3 := (hone x).1 ((hin x).1 hx).1.1
       rcases less_apart hi hm.fo hf with h | h <;> omega
      ·obtain ⟨w, hw', hx'⟩ := in_needed.1 hx
       obtain ⟨v, hv, _, rfl⟩ := comeR_mem hw'
       obtain ⟨b1, b2⟩ := in_minusS.1 hx'
       obtain ⟨f, hf, a1, a2⟩ := in_flown.1 (hm.d x (in_needed.2 ⟨v, hv, b1⟩))
       rcases less_or hi hf with rfl | hf
       ·exact .inr ((hin x).2 ⟨⟨(hone x).2 ⟨a1, a2⟩, b2⟩, hx⟩)
       ·exact .inl (in_flown.2 ⟨f, hf, a1, a2⟩)
     have hidl : ((lessL m.fl i).map (·.id)).Nodup := by rw [← lessL_map]; exact less_pair hrow
     refine clean_jok hst h.n ⟨by omega, by omega⟩ hPre (by rw [hme]; exact hkey.symm) (news_ids hidl fun f hf => (hfb f hf).2.2) fun f hf => ?_
     rcases news_mem.1 hf with hf | hf
     ·exact .inl ⟨f, by rw [hme]; exact mem_less hf, rfl⟩
     ·have := (newF_mem hf).2.1
      exact .inr (by omega)
end Go.Fx.J
namespace Go.Fx.J
open Go Go.Fx Go.Proofs Go.Fx.R
end Go.Fx.J
namespace Go.Fx.J
open Go Go.Fx Go.Proofs Go.Fx.R
end Go.Fx.J
namespace Go.Fx.J
open Go Go.Fx Go.Proofs Go.Fx.R
set_option maxRecDepth 20000
theorem ok8 (j : Jns) : Ok 8 [.agg j.enc] (Is (.b (fewB j && validB j))) := by
 refine ok_of lw8 (by simp) ?_
 unfold c8
 simp -implicitDefEqProofs only [rX,↓rY,ofConst,cells?,↓reduceIte,Nat.reduceEqDiff,Nat.reduceAdd,freshP,cxN,yB,yA,args0]
 refine call_is (ok31 j) (by simp [lendsOk, lendOk, lends, lend, wkL, wk, wkR, wkB]) rfl trivial ?_
 cases h0 : fewB j with
 | false => simp -implicitDefEqProofs only [rX,↓rY,ofConst,↓reduceIte,Nat.reduceEqDiff,resP,tupV,wfV,vI]
 | true =>
  simp -implicitDefEqProofs only [rX,↓rY,↓reduceIte,Nat.reduceEqDiff,Nat.reduceAdd,yB,yA]
  refine call_is (ok14 j (few1_of h0)) (by simp [lendsOk, lendOk, lends, lend, wkL, wk, wkR, wkB]) rfl trivial ?_
  simp -implicitDefEqProofs only [rX,↓rY,↓reduceIte,Nat.reduceEqDiff,resP,tupV,wfV]
end Go.Fx.J
namespace Go.Fx.J
open Go Go.Fx Go.Proofs Go.Fx.R
theorem wv_int {x : V} (h : WfV (.int .i64) x) : ∃ n : Int, x = .i n := by
 simp only [WfV] at h
 obtain ⟨n, h1, h2⟩ := wf_int h
 exact ⟨n, by simpa using h1⟩
theorem wv_sps {x : V} (h : WfV tSps x) : ∃ l : List Sp, x = spans l := by
 obtain ⟨l, hl⟩ := wf_sps h
 exact ⟨l, by simpa using hl⟩
end Go.Fx.J
namespace Go.Fx.J
open Go Go.Fx Go.Proofs Go.Fx.R
set_option maxRecDepth 20000
theorem ok59 (m : Mis) (i : Nat) (hi : i < m.fl.length) (hl : m.fl.length ≤ 1000000000) : Ok 59 [.agg m.enc, .i i] (Is (.agg (Mis.enc ⟨m.key, lessL m.fl i, m.wt⟩))) := by
 refine okN_gv ?_
 refine ok_of lw59 (by simp) ?_
 unfold c59
 have hA : yE (i - uL 0) (yU (uL 0) (yL Fet.enc m.fl)) = (m.fl.take i).map Fet.enc := by
  rw [uR, uS, List.drop_zero, vN]
 have hB : yE (m.fl.length - ((i : Int) + 1).toNat) (yU ((i : Int) + 1).toNat (yL Fet.enc m.fl)) = (m.fl.drop (i + 1)).map Fet.enc := by
  rw [show ((i : Int) + 1).toNat = i + 1 by omega, yD (by simp), vT]
 have hN : ((m.fl.take i).map Fet.enc).length + ((m.fl.drop (i + 1)).map Fet.enc).length = (lessL m.fl i).length := by
  unfold lessL; simp
 have hE : (m.fl.take i).map Fet.enc ++ (m.fl.drop (i + 1)).map Fet.enc = (lessL m.fl i).map Fet.enc := by
  unfold lessL; simp
 have hR : ∀ n, yE 1 m.enc ++ [V.sl 2 0 n] ++ yU 2 m.enc = [sv m.key, .sl 2 0 n, wais m.wt] := fun _ => rfl
 have hll : (lessL m.fl i).length ≤ m.fl.length := by unfold lessL; simp; omega
 simp -implicitDefEqProofs only [rX,↓rY,rdK,ofConst,cells?,splice,↓reduceIte,Nat.reduceEqDiff,Nat.reduceAdd,reduceCtorEq,freshP,slcOk,litsP,killE,killB,kill,kills,St.kill,isC,Nat.reduceLeDiff,cxN,k_nil,ms_len,ms_1,ms_k,yA,args0]
 rw [hA, hB, hN, hR]
 refine ⟨⟨⟨by omega, by omega⟩, by omega, by omega⟩, by simp only [lo, Fx.hi]; omega, ⟨⟨by omega, by omega⟩, by omega⟩, .inr trivial, by simp; omega, .inr trivial, by omega, by simp [Mis.enc], ?_⟩
 refine ⟨rfl, rfl, ?_⟩
 rw [show yE 3 [sv m.key, V.sl 2 0 (lessL m.fl i).length, wais m.wt] = [sv m.key, V.sl 2 0 (lessL m.fl i).length, wais m.wt] from rfl, yY, hE]
 have ht : yE (lessL m.fl i).length ((lessL m.fl i).map Fet.enc) = (lessL m.fl i).map Fet.enc := yD (by simp)
 generalize lessL m.fl i = F at *
 simp -implicitDefEqProofs only [rX,↓rY,↓reduceIte,Nat.reduceEqDiff,Nat.reduceAdd,resP,tupV,keepP,liveP,wfV,wfL,yC,yB,yA,retP_eq]
 refine ⟨[.dead, .dead, .arr 3 (F.map Fet.enc)], ⟨by simp [leH, leB], yV _, by simp, by simp [wfB]⟩, ?_⟩
 simp [Gv, tupV, gvV, gvL, wk, wkL, wkR, wfV, wfL, blk, ht, Mis.enc]
end Go.Fx.J
namespace Go.Fx.R
def insB {α : Type} (p : α → Bool) : List α → α → List α
 | [], x => [x]
 | y :: r, x => if p y = true then x :: y :: r else y :: insB p r x
theorem insF_B : ∀ {l : List Fet} {x : Fet}, insF l x = insB (fun y => decide (x.sp.1 < y.sp.1)) l x
 | [], x => rfl
 | y :: r, x => by
  unfold insF insB
  rw [insF_B (l := r)]
  by_cases h : x.sp.1 < y.sp.1
  ·rw [if_pos h, if_pos (decide_eq_true h)]
  ·rw [if_neg h, if_neg (by simpa using h)]
theorem insB_any {α : Type} {p : α → Bool} : ∀ {l r : List α} {x : α}, l.any p = true → insB p (l ++ r) x = insB p l x ++ r
 | [], r, x, h => by simp at h
 | y :: l, r, x, h => by
  rw [uO]
  unfold insB
  cases hy : p y with
  | true => simp
  | false =>
   rw [uP, hy, vW] at h
   simp [insB_any (r := r) (x := x) h]
theorem insB_none {α : Type} {p : α → Bool} : ∀ {l r : List α} {x : α}, l.any p = false → insB p (l ++ r) x = l ++ insB p r x
 | [], r, x, h => rfl
 | y :: l, r, x, h => by
  rw [uP, Bool.or_eq_false_iff] at h
  rw [uO, insB, if_neg (by rw [h.1]; simp), insB_none h.2]
  rfl
def insS {α : Type} (p : α → Bool) (l : List α) (x : α) : List α := if l.any p = true then insB p l x else l
theorem insS_step {α : Type} {p : α → Bool} {l : List α} {x y : α} : insS p (l ++ [y]) x = insS p l x ++ (if l.any p = true then [y] else if p y = true then [x, y] else [y]) := by
 unfold insS
 rw [uX]
 cases h : l.any p with
 | true => simp [insB_any h]
 | false =>
  cases hy : p y with
  | true => simp [hy, insB_none h, insB]
  | false => simp [hy]
theorem insS_end {α : Type} {p : α → Bool} {l : List α} {x : α} : insS p l x ++ (if l.any p = true then [] else [x]) = insB p l x := by
 unfold insS
 cases h : l.any p with
 | true => simp
 | false =>
  have := insB_none (r := []) (x := x) h
  rw [yJ] at this
  rw [this]
  simp [insB]
theorem insS_len {α : Type} {p : α → Bool} {l : List α} {x : α} : (insS p l x).length = l.length + (if l.any p = true then 1 else 0) := by
 have h : ∀ l : List α, (insB p l x).length = l.length + 1 := fun l => by
  induction l with
  | nil => rfl
  | cons y r ih =>
   unfold insB
   split
   ·simp
   ·simp [ih]
 unfold insS
 split
 ·rw [h]
 ·rfl
def putR {α : Type} (ge eq : α → Bool) (m : α) : Bool → List α → List α
 | d, [] => if d = true then [] else [m]
 | d, x :: r => (if (!d && ge x) = true then [m] else []) ++ ((if eq x = true then [] else [x]) ++ putR ge eq m (d || ge x) r)
def putS {α : Type} (ge eq : α → Bool) (m : α) : Bool → List α → List α
 | d, [] => []
 | d, x :: r => (if (!d && ge x) = true then [m] else []) ++ ((if eq x = true then [] else [x]) ++ putS ge eq m (d || ge x) r)
theorem putS_step {α : Type} {ge eq : α → Bool} {m x : α} : ∀ {l : List α} {d : Bool}, putS ge eq m d (l ++ [x]) = putS ge eq m d l ++ ((if (!(d || l.any ge) && ge x) = true then [m] else []) ++ (if eq x = true then [] else [x]))
 | [], d => by simp [putS]
 | y :: l, d => by
  rw [uO, putS, putS, putS_step (l := l), uP, ← uY]
  simp only [vD]
theorem putS_end {α : Type} {ge eq : α → Bool} {m : α} : ∀ {l : List α} {d : Bool}, putR ge eq m d l = putS ge eq m d l ++ (if (d || l.any ge) = true then [] else [m])
 | [], d => by simp [putS, putR]
 | y :: l, d => by
  rw [putS, putR, putS_end (l := l), uP, ← uY]
  simp only [vD]
theorem putS_len {α : Type} {ge eq : α → Bool} {m : α} : ∀ {l : List α} {d : Bool}, (putS ge eq m d l).length ≤ l.length + 1 ∧ (d = true → (putS ge eq m d l).length ≤ l.length)
 | [], d => by simp [putS]
 | y :: l, d => by
  have h := putS_len (ge := ge) (eq := eq) (m := m) (l := l) (d := d || ge y)
  have h1 : (if eq y = true then [] else [y]).length ≤ 1 := by split <;> simp
  rw [putS, yG, yG, List.length_cons]
  cases d with
  | true => simp at h ⊢; omega
  | false =>
   cases hg : ge y with
   | true => simp [hg] at h ⊢; omega
   | false => simp [hg] at h ⊢; omega
theorem putR_no {α : Type} {ge eq : α → Bool} {m : α} : ∀ {l : List α}, (∀ y ∈ l, eq y = false) → putR ge eq m true l = l ∧ putR ge eq m false l = insB ge l m
 | [], _ => ⟨rfl, rfl⟩
 | y :: l, h => by
  have hy := h y uM
  obtain ⟨h1, h2⟩ := putR_no (ge := ge) (m := m) (l := l) fun z hz => h z (uN _ hz)
  refine ⟨by rw [putR, hy, vA, h1]; rfl, ?_⟩
  rw [putR, hy, vW]
  unfold insB
  cases hg : ge y with
  | true => rw [h1]; rfl
  | false => rw [h2]; rfl
theorem putR_at {α : Type} {ge eq lt : α → Bool} {m : α} : ∀ {l : List α} (hk : posN lt l < l.length), Split lt l → (∀ y ∈ l, ge y = !lt y) → (l.Pairwise fun a b => eq a = true → eq b = false) → (∀ y ∈ l, eq y = true → lt y = false) → eq (l[posN lt l]'hk) = true →
  putR ge eq m true l = l.take (posN lt l) ++ l.drop (posN lt l + 1) ∧ putR ge eq m false l = l.set (posN lt l) m
 | [], hk, _, _, _, _, _ => by simp at hk
 | y :: l, hk, hs, hg, hu, he, hat => by
  obtain ⟨s1, s2⟩ := List.pairwise_cons.1 hs
  obtain ⟨u1, u2⟩ := List.pairwise_cons.1 hu
  have gy := hg y uM
  cases hl : lt y with
  | true =>
   have hp : posN lt (y :: l) = posN lt l + 1 := by rw [posN_cons, hl, if_pos rfl, Nat.add_comm]
   have ey : eq y = false := by
    cases e : eq y with
    | false => rfl
    | true => rw [he y uM e] at hl; cases hl
   have hk' : posN lt l < l.length := by rw [hp, List.length_cons] at hk; omega
   have hat' : eq (l[posN lt l]'hk') = true := by
    have e : (y :: l)[posN lt (y :: l)]'hk = l[posN lt l]'hk' := by
     simp only [hp, xE]
    rw [e] at hat
    exact hat
   obtain ⟨i1, i2⟩ := putR_at (m := m) hk' s2 (fun z hz => hg z (uN _ hz)) u2 (fun z hz => he z (uN _ hz)) hat'
   rw [hl] at gy
   rw [hp]
   refine ⟨?_, ?_⟩
   ·rw [putR, ey, vA, i1]; rfl
   ·rw [putR, ey, gy, vW, vJ, i2]; rfl
  | false =>
   have hz : posN lt l = 0 := posN_zero fun z hz => by
    cases hz2 : lt z with
    | false => rfl
    | true => rw [s1 z hz hz2] at hl; cases hl
   have hp : posN lt (y :: l) = 0 := by rw [posN_cons, hl, hz]; rfl
   have ey : eq y = true := by
    have e : (y :: l)[posN lt (y :: l)]'hk = y := by simp only [hp, List.getElem_cons_zero]
    rw [e] at hat
    exact hat
   obtain ⟨n1, _⟩ := putR_no (ge := ge) (m := m) (l := l) fun z hz => u1 z hz ey
   rw [hl] at gy
   rw [hp]
   refine ⟨?_, ?_⟩
   ·rw [putR, ey, vA, n1]; rfl
   ·rw [putR, ey, gy, vW, vK, n1]; rfl
end Go.Fx.R
namespace Go.Fx.J
open Go Go.Fx Go.Proofs Go.Fx.R
set_option maxRecDepth 20000
theorem newF_take' {last : Int} {l : List Sp} {i : Nat} (h : i < l.length) : newF last (l.take (i + 1)) = newF last (l.take i) ++ [⟨last + i + 1, l[i]⟩] := by
 induction l generalizing last i with
 | nil => simp at h
 | cons s l ih =>
  cases i with
  | zero => simp [newF]
  | succ i =>
   have := ih (last := last + 1) (i := i) (by simpa using h)
   simp only [yB, newF, xE, uO, this]
   rw [show last + 1 + (i : Int) + 1 = last + ((i + 1 : Nat) : Int) + 1 by omega]
theorem ms_gv {m : Mis} {M : Nat → Bool} {h : List Blk} : gvL M h m.enc = m.enc := rfl
abbrev gtF (x y : Fet) : Bool := decide (x.sp.1 < y.sp.1)
theorem ok49 (m : Mis) (l : List Sp) (last : Int) (hb : -1000000000000000000 ≤ last ∧ last + l.length ≤ 2305843009213693952) (hl : l.length ≤ 1099511627776) (hfl : m.fl.length ≤ 1099511627776) :
  Ok 49 [.agg m.enc, spans l, .i last] (Is (.tup [.agg (Mis.enc ⟨m.key, (newF last l).foldl insF m.fl, m.wt⟩), fets (newF last l), .i (last + l.length)])) := by
 refine okN_gv ?_
 refine ok_of lw49 (by simp) ?_
 unfold c49
 simp -implicitDefEqProofs only [rX,↓rY,ofConst,cells?,↓reduceIte,Nat.reduceAdd,freshP,cxN,k_nil,yA,args0]
 refine loopP_ghost (.virt 1 3 (by decide) (.nilE 9 2 rfl (.refl _))) (fun i : Nat => ⟨[(10, .i i), (9, .sl 2 0 i), (6, .ptr 1 0 0), (3, .ptr 0 0 0), (2, .i (last + i)), (1, spans l)], [.var m.enc, .var [.v (.string (sb [])), .nil, .nil], .arr 3 ((newF last (l.take i)).map Fet.enc)], 2⟩) (fun i => i ≤ l.length) (fun i => l.length - i) 0 (by omega) ?_ ?_
 ·simp -implicitDefEqProofs only [rX,↓reduceIte,Nat.reduceEqDiff,reduceCtorEq,leE,leH,leB,leV,leVs,keepP,liveP,wfE,wfB,wfV,wfL,ms_wf,ms_le,vF,newF,yT,Int.add_zero]
 rintro i hi0
 unfold c49l0
 rcases yN i l.length with hi' | hi'
 ·have hd : decide ((i : Int) < (l.length : Int)) = true := decide_eq_true (by omega)
  have hii : (0 : Int) ≤ i ∧ (i : Int) < l.length := ⟨by omega, by omega⟩
  have hnl : (newF last (l.take i)).length = i := by simp [newF_len]; omega
  simp -implicitDefEqProofs only [rX,↓rY,ofConst,cells?,splice,↓reduceIte,Nat.reduceEqDiff,Nat.reduceAdd,reduceCtorEq,freshP,buildP,litsP,leE,leH,leB,leV,leVs,keepP,liveP,wfE,wfB,wfV,wfL,killE,killB,kill,kills,St.kill,isD,Nat.reduceLT,Nat.reduceLeDiff,enS_len,enS_take,enS_D,enS_kill,ms_k,ms_wf,ms_le,yC,yB,yA,hd]
  refine fun _ => ⟨by simp only [lo, hi]; omega, hii, hi', ⟨by omega, by omega⟩, by simp only [lo, hi]; omega, i + 1, ⟨hi', by omega⟩, ⟨by omega, rfl, by omega⟩, ?_⟩
  rw [newF_take' hi', yD (by simp [hnl]), yI]
  rfl
 ·have hd : decide ((i : Int) < (l.length : Int)) = false := decide_eq_false (by omega)
  have hie : i = l.length := by omega
  subst hie
  rw [yY]
  simp -implicitDefEqProofs only [rX,↓rY,ofConst,↓reduceIte,Nat.reduceEqDiff,Nat.reduceAdd,reduceCtorEq,freshP,litsP,killE,killB,kill,kills,St.kill,ms_1,ms_k,yA,hd]
  refine fun _ => ⟨.inr trivial, by omega, ?_⟩
  have hnl : (newF last l).length = l.length := newF_len
  refine loopP_back (fun g : Nat => ⟨[(12, .i g), (11, fets (((newF last l).take g).foldl insF m.fl)), (9, .sl 2 0 l.length), (6, .ptr 1 0 0), (3, .ptr 0 0 0), (2, .i (last + l.length))], [.var m.enc, .var [.v (.string (sb [])), .nil, .nil], .arr 3 ((newF last l).map Fet.enc), .dead, .dead], 5⟩) (fun g => g ≤ l.length) (fun g => l.length - g) 0 (by omega) ?_ ?_
  ·refine ⟨_, .give (fun k => k == 3) (by simp) (.refl _), ?_⟩
   have ht : yE m.fl.length (yL Fet.enc m.fl) = m.fl.map Fet.enc := yD (by simp)
   simp [St.give, gvE, gvV, gvH, gvB, gvL, blk, ht, ms_gv]
   simp -implicitDefEqProofs only [rX,↓reduceIte,Nat.reduceEqDiff,leE,leH,leB,leV,leVs,keepP,liveP,wfE,wfB,wfV,wfL,ms_wf,ms_le]
  rintro g hg0
  unfold c49l1
  rcases yN g l.length with hg' | hg'
  ·have hd2 : decide ((g : Int) < (l.length : Int)) = true := decide_eq_true (by omega)
   have hgn : g < (newF last l).length := by omega
   have hS : ((newF last l).take (g + 1)).foldl insF m.fl = insB (gtF (newF last l)[g]) (((newF last l).take g).foldl insF m.fl) (newF last l)[g] := by
    rw [vB hgn, List.foldl_append]
    exact insF_B
   have hFl : (((newF last l).take g).foldl insF m.fl).length = m.fl.length + g := by
    rw [insFs_perm.length_eq, yG, uK]; omega
   generalize ((newF last l).take g).foldl insF m.fl = F at *
   simp -implicitDefEqProofs only [rX,↓rY,ofConst,↓reduceIte,Nat.reduceEqDiff,Nat.reduceAdd,yA,hd2]
   intro hm2
   refine loopP_ghost (.virt 1 3 (by decide) (.nilE 13 5 rfl (.refl _))) (fun i : Nat => ⟨[(15, .i i), (14, .b ((F.take i).any (gtF (newF last l)[g]))), (13, .sl 5 0 (insS (gtF (newF last l)[g]) (F.take i) (newF last l)[g]).length), (12, .i g), (11, fets F), (9, .sl 2 0 l.length), (6, .ptr 1 0 0), (3, .ptr 0 0 0), (2, .i (last + l.length))], [.var m.enc, .var [.v (.string (sb [])), .nil, .nil], .arr 3 ((newF last l).map Fet.enc), .dead, .dead, .arr 3 ((insS (gtF (newF last l)[g]) (F.take i) (newF last l)[g]).map Fet.enc)], 5⟩) (fun i => i ≤ F.length) (fun i => F.length - i) 0 (by omega) ?_ ?_
   ·simp -implicitDefEqProofs only [rX,↓reduceIte,Nat.reduceEqDiff,leE,leH,leB,leV,leVs,keepP,liveP,wfE,wfB,wfV,wfL,ms_wf,ms_le,vF,insS,List.any_nil,yT]
   rintro i hi0
   unfold c49l2
   have hSl := insS_len (p := gtF (newF last l)[g]) (l := F.take i) (x := (newF last l)[g])
   rw [yZ hi0] at hSl
   rcases yN i F.length with hi' | hi'
   ·have hd3 : decide ((i : Int) < (F.length : Int)) = true := decide_eq_true (by omega)
    have hii : (0 : Int) ≤ i ∧ (i : Int) < F.length := ⟨by omega, by omega⟩
    have hgg : (0 : Int) ≤ g ∧ (g : Int) < l.length := ⟨by omega, by omega⟩
    have hstep := insS_step (p := gtF (newF last l)[g]) (l := F.take i) (x := (newF last l)[g]) (y := F[i])
    rw [← vB hi'] at hstep
    have hany : (F.take (i + 1)).any (gtF (newF last l)[g]) = ((F.take i).any (gtF (newF last l)[g]) || gtF (newF last l)[g] F[i]) := by
     rw [vB hi', uX]; simp
    generalize insS (gtF (newF last l)[g]) (F.take i) (newF last l)[g] = s at *
    cases hA : (F.take i).any (gtF (newF last l)[g]) with
    | true =>
     simp -implicitDefEqProofs only [rX,↓rY,ofConst,cells?,↓reduceIte,Nat.reduceEqDiff,Nat.reduceAdd,reduceCtorEq,freshP,litsP,leE,leH,leB,leV,leVs,keepP,liveP,wfE,wfB,wfV,wfL,killE,killB,kill,kills,St.kill,Nat.reduceLT,ft_len,ft_t,ft_D,ft_k,ms_k,ms_wf,ms_le,yB,yA,hd3]
     rw [hA] at hSl hstep hany
     rw [if_pos rfl] at hSl hstep
     have hts : yE s.length (yL Fet.enc s) = s.map Fet.enc := yD (by simp)
     exact fun _ => ⟨hii, hi', by omega, by simp only [lo, hi]; omega, i + 1, ⟨hi', by omega⟩, ⟨by omega, by rw [hany]; rfl, by rw [hstep, yG]; rfl⟩, by rw [hstep, hts, yI]; rfl⟩
    | false =>
     simp -implicitDefEqProofs only [rX,↓rY,ofConst,cells?,↓reduceIte,Nat.reduceEqDiff,arrSz,Nat.reduceAdd,reduceCtorEq,freshP,litsP,leE,leH,leB,leV,leVs,keepP,liveP,wfE,wfB,wfV,wfL,killE,killB,kill,kills,St.kill,Nat.reduceLT,Nat.reduceLeDiff,ft_len,ft_t,ft_1,ft_D,ft_k,ms_k,ms_wf,ms_le,yB,yA,hd3]
     rw [hA] at hSl hstep hany
     rw [if_neg (by simp)] at hSl hstep
     rw [vW] at hany
     have hts : yE s.length (yL Fet.enc s) = s.map Fet.enc := yD (by simp)
     refine fun _ => ⟨hii, hi', hgg, hgn, ?_⟩
     cases hB : gtF (newF last l)[g] F[i] with
     | true =>
      rw [hB] at hany hstep
      rw [if_pos rfl] at hstep
      have hB' : decide ((newF last l)[g].sp.1 < F[i].sp.1) = true := hB
      rw [hB']
      simp only [br]
      refine ⟨fun _ => ?_, fun h => by cases h⟩
      refine ⟨hgg, hgn, by omega, hii, hi', ⟨by rw [hts]; simp, by omega⟩, by simp only [lo, hi]; omega, i + 1, ⟨hi', by omega⟩, ⟨by omega, hany.symm, by rw [hstep, yG]; rfl⟩, ?_⟩
      rw [hstep, hts, yD (by simp), yI, vD]; rfl
     | false =>
      rw [hB] at hany hstep
      rw [if_neg (by simp)] at hstep
      have hB' : decide ((newF last l)[g].sp.1 < F[i].sp.1) = false := hB
      rw [hB']
      simp only [br]
      refine ⟨fun h => (by cases h), fun _ => ?_⟩
      exact ⟨hii, hi', by omega, by simp only [lo, hi]; omega, i + 1, ⟨hi', by omega⟩, ⟨by omega, hany.symm, by rw [hstep, yG]; rfl⟩, by rw [hstep, hts, yI]; rfl⟩
   ·have hd3 : decide ((i : Int) < (F.length : Int)) = false := decide_eq_false (by omega)
    have hie : i = F.length := by omega
    subst hie
    have hend := insS_end (p := gtF (newF last l)[g]) (l := F) (x := (newF last l)[g])
    rw [yY] at hSl ⊢
    have hgg : (0 : Int) ≤ g ∧ (g : Int) < l.length := ⟨by omega, by omega⟩
    generalize insS (gtF (newF last l)[g]) F (newF last l)[g] = s at *
    have hts : yE s.length (yL Fet.enc s) = s.map Fet.enc := yD (by simp)
    cases hA : F.any (gtF (newF last l)[g]) with
    | true =>
     rw [hA] at hSl hend
     rw [if_pos rfl] at hSl hend
     rw [yJ] at hend
     simp -implicitDefEqProofs only [rX,↓rY,ofConst,↓reduceIte,Nat.reduceEqDiff,Nat.reduceAdd,yA,hd3]
     refine fun _ => ⟨by simp only [lo, hi]; omega, g + 1, ⟨hg', by omega⟩, _, .give (fun k => k == 5) (by simp) (.refl _), ?_⟩
     rw [hS, ← hend]
     simp [St.give, gvE, gvV, gvH, gvB, gvL, blk, hts, ms_gv]
     simp -implicitDefEqProofs only [rX,↓reduceIte,Nat.reduceEqDiff,leE,leH,leB,leV,leVs,keepP,liveP,wfE,wfB,wfV,wfL,ms_wf,ms_le]
    | false =>
     rw [hA] at hSl hend
     rw [if_neg (by simp)] at hSl hend
     simp -implicitDefEqProofs only [rX,↓rY,ofConst,cells?,↓reduceIte,Nat.reduceEqDiff,arrSz,Nat.reduceAdd,reduceCtorEq,freshP,litsP,killE,killB,kill,kills,St.kill,Nat.reduceLT,ft_len,ft_t,ft_D,ft_k,ms_k,yB,yA,hd3]
     refine fun _ => ⟨hgg, hgn, by omega, by simp only [lo, hi]; omega, g + 1, ⟨hg', by omega⟩, _, .give (fun k => k == 5) (by simp) (.refl _), ?_⟩
     rw [hS, ← hend]
     simp [St.give, gvE, gvV, gvH, gvB, gvL, blk, hts, ms_gv]
     simp -implicitDefEqProofs only [rX,↓reduceIte,Nat.reduceEqDiff,leE,leH,leB,leV,leVs,keepP,liveP,wfE,wfB,wfV,wfL,ms_wf,ms_le,yA]
     rw [yD (by simp), fets, yI]; rfl
  ·have hd2 : decide ((g : Int) < (l.length : Int)) = false := decide_eq_false (by omega)
   have hge : g = l.length := by omega
   subst hge
   have htk : (newF last l).take l.length = newF last l := yD (by omega)
   have hFl : ((newF last l).foldl insF m.fl).length = m.fl.length + l.length := by
    rw [insFs_perm.length_eq, yG, hnl]
   rw [htk]
   generalize (newF last l).foldl insF m.fl = F at *
   simp -implicitDefEqProofs only [rX,↓rY,cells?,splice,↓reduceIte,Nat.reduceEqDiff,Nat.reduceAdd,resP,tupV,keepP,liveP,wfV,wfL,isC,Nat.reduceLeDiff,ms_len,yA,hd2,retP_eq]
   have hR : ∀ v, yE 1 m.enc ++ [v] ++ yU 2 m.enc = [sv m.key, v, wais m.wt] := fun _ => rfl
   have hd0 : ∀ v w : V, yU [sv m.key, v, wais m.wt].length [w, V.nil, V.nil] = [] := fun _ _ => rfl
   have ht3 : ∀ v : V, yE 3 [sv m.key, v, wais m.wt] = [sv m.key, v, wais m.wt] := fun _ => rfl
   have htn : yE l.length ((newF last l).map Fet.enc) = (newF last l).map Fet.enc := yD (by simp [hnl])
   rw [hR]
   simp only [ht3, hd0, yJ]
   refine fun _ => ⟨by simp [Mis.enc], rfl, rfl, by simp, [.dead, .dead, .arr 3 ((newF last l).map Fet.enc)], ⟨by simp [leH, leB], yV _, ⟨⟨trivial, trivial, trivial, trivial⟩, trivial⟩, by simp [wfB]⟩, ?_⟩
   simp [Gv, tupV, gvV, gvL, wk, wkL, wkR, wfV, wfL, blk, htn, hnl, Mis.enc]
end Go.Fx.J
namespace Go.Fx.J
open Go Go.Fx Go.Proofs Go.Fx.R
set_option maxRecDepth 20000
theorem kept_step {α : Type} {p : α → Bool} {id : α → Int} {l : List α} {i : Nat} (h : i < l.length) :
  keptD p (l.take (i + 1)) = keptD p (l.take i) ++ (if p l[i] = true then [] else [l[i]]) ∧ outsD p id (l.take (i + 1)) = outsD p id (l.take i) ++ (if p l[i] = true then [id l[i]] else []) := by
 unfold keptD outsD
 rw [vB h, vX, vX, yI]
 cases hp : p l[i] <;> simp [hp]
theorem ms_frz {m : Mis} {k sz : Nat} {els : List (List V)} : frzL k sz els m.enc = m.enc := rfl
structure Chg where
 j : Jns
 who : List Int
 new : List Fet
 drop : List Int
 e : Int
def Chg.enc (c : Chg) : List V := [.i c.j.last, miss c.j.l, ints c.who, fets c.new, ints c.drop, .i c.e]
def geM (k : S) (m : Mis) : Bool := !ltM k m
def putP (j : Jns) (m : Mis) : Chg :=
 ⟨⟨j.last, putR (geM m.key) (eqM m.key) ⟨m.key, keptD (goF (needed m)) m.fl, m.wt⟩ (decide (m.wt = [])) j.l⟩, [], [], outsD (goF (needed m)) Fet.id m.fl, 0⟩
theorem ok50 (j : Jns) (m : Mis) (hj : j.l.length ≤ 1000000) (hb : ∀ w ∈ m.wt, Vd w.need) (hw : m.wt.length ≤ 4398046511103) (hf : m.fl.length ≤ 2199023255552) :
  Ok 50 [.agg j.enc, .agg m.enc] (Is (.agg (putP j m).enc)) := by
 have hR : ∀ v, yE 1 m.enc ++ [v] ++ yU 2 m.enc = [sv m.key, v, wais m.wt] := fun _ => rfl
 refine okN_gv ?_
 refine ok_of lw50f (by simp) ?_
 unfold c50f
 simp -implicitDefEqProofs only [rX,↓rY,ofConst,cells?,splice,↓reduceIte,Nat.reduceEqDiff,Nat.reduceAdd,reduceCtorEq,freshP,buildP,isC,cxN,k_nil,ms_len,ms_t,yC,yA,args0]
 have hbd : ∀ w ∈ m.wt, Bd w.need := fun w h => (hb w h).2
 have hnl : ∀ w ∈ m.wt, w.need.length ≤ 4398046511103 := fun w h => by have := (hb w h).len; omega
 have hvn : Vd (needed m) := vd_of sep_ofS fun x hx => by
  obtain ⟨w, hw, hx⟩ := in_needed.1 hx
  exact (hb w hw).in hx
 refine call_is (ok61 (sv m.key) (fets m.fl) m.wt hbd hw hnl) (by simp [lendsOk, lendOk, lends, lend, wkL, wk, wkR, wkB, Mis.enc]) rfl trivial ?_
 rw [show ofS (nd m.wt) = needed m from rfl]
 unfold putP
 generalize needed m = nds at *
 simp -implicitDefEqProofs only [rX,ofConst,↓reduceIte,Nat.reduceAdd]
 refine loopP_ghost (.virt 1 3 (by decide) (.virt 1 1 (by decide) (.nilE 7 4 rfl (.nilB 3 [.i 0, .nil, .nil, .nil, .nil, .i 0] [.i 0, .nil, .nil, .nil, .sl 5 0 0, .i 0] rfl ⟨rfl, fun i a b h1 h2 => ?_⟩ (.refl _))))) (fun i : Nat => ⟨[(8, .i i), (7, .sl 4 0 (keptD (goF nds) (m.fl.take i)).length), (6, spans nds), (5, .ptr 3 0 0), (4, .ptr 2 0 0), (3, .ptr 1 0 0), (2, .ptr 0 0 0)], [.var j.enc, .var m.enc, .var [.i 0, .nil, .nil, .nil, .nil, .i 0], .var [.i 0, .nil, .nil, .nil, .sl 5 0 (outsD (goF nds) Fet.id (m.fl.take i)).length, .i 0], .arr 3 ((keptD (goF nds) (m.fl.take i)).map Fet.enc), .arr 1 ((outsD (goF nds) Fet.id (m.fl.take i)).map encI)], 4⟩) (fun i => i ≤ m.fl.length) (fun i => m.fl.length - i) 0 (by omega) ?_ ?_
 ·match i with
  | 0 => simp at h1 h2; subst h1 h2; exact .inl rfl
  | 1 => simp at h1 h2; subst h1 h2; exact .inl rfl
  | 2 => simp at h1 h2; subst h1 h2; exact .inl rfl
  | 3 => simp at h1 h2; subst h1 h2; exact .inl rfl
  | 4 => simp at h1 h2; subst h1 h2; exact .inr ⟨rfl, _, rfl⟩
  | 5 => simp at h1 h2; subst h1 h2; exact .inl rfl
  | i + 6 => simp at h1
 ·simp -implicitDefEqProofs only [rX,↓reduceIte,Nat.reduceEqDiff,leE,leH,leB,leV,leVs,keepP,liveP,wfE,wfB,wfV,wfL,ms_wf,ms_le,vF,keptD,outsD,List.filter_nil,yT]
 rintro i hi0
 unfold c50l0
 rcases yN i m.fl.length with hi' | hi'
 ·have hd : decide ((i : Int) < (m.fl.length : Int)) = true := decide_eq_true (by omega)
  have hii : (0 : Int) ≤ i ∧ (i : Int) < m.fl.length := ⟨by omega, by omega⟩
  simp -implicitDefEqProofs only [rX,↓rY,↓reduceIte,Nat.reduceEqDiff,Nat.reduceAdd,ft_len,ft_d1,ms_1,yA,hd]
  refine fun _ => ⟨hii, hi', ?_⟩
  refine call_is (ok65 nds m.fl[i].sp hvn) (by simp [lendsOk, lendOk, lends, lend, wkL, wk, wkR, wkB, enS]) rfl trivial ?_
  have hkl := keptD_len (p := goF nds) (l := m.fl.take i)
  have hol := outsD_len (p := goF nds) (id := Fet.id) (l := m.fl.take i)
  rw [yZ hi0] at hkl hol
  obtain ⟨s1, s2⟩ := kept_step (p := goF nds) (id := Fet.id) hi'
  generalize keptD (goF nds) (m.fl.take i) = K at *
  generalize outsD (goF nds) Fet.id (m.fl.take i) = D at *
  have htK : yE K.length (K.map Fet.enc) = K.map Fet.enc := yD (by simp)
  have htD : yE D.length (D.map encI) = D.map encI := yD (by simp)
  cases hc : common nds m.fl[i].sp with
  | true =>
   have hg : goF nds m.fl[i] = false := by unfold goF; rw [hc]; rfl
   rw [hg] at s1 s2
   rw [if_neg (by simp)] at s1 s2
   rw [yJ] at s2
   simp -implicitDefEqProofs only [rX,↓rY,ofConst,cells?,↓reduceIte,Nat.reduceEqDiff,Nat.reduceAdd,reduceCtorEq,freshP,litsP,leE,leH,leB,leV,leVs,keepP,liveP,wfE,wfB,wfV,wfL,killE,killB,kill,kills,St.kill,Nat.reduceLT,enS_kill,ft_len,ft_t,ft_D,ft_k,ms_1,ms_k,ms_wf,ms_le,yB,yA]
   exact ⟨hii, hi', by omega, by simp only [lo, hi]; omega, i + 1, ⟨hi', by omega⟩, ⟨by omega, by rw [s1, yG]; rfl⟩, by rw [s2], by rw [s1, htK, yI]; rfl, by rw [s2]⟩
  | false =>
   have hg : goF nds m.fl[i] = true := by unfold goF; rw [hc]; rfl
   rw [hg] at s1 s2
   rw [if_pos rfl] at s1 s2
   rw [yJ] at s1
   simp -implicitDefEqProofs only [rX,↓rY,rdK,ofConst,cells?,splice,↓reduceIte,Nat.reduceEqDiff,Nat.reduceAdd,reduceCtorEq,freshP,litsP,leE,leH,leB,leV,leVs,keepP,liveP,wfE,wfB,wfV,wfL,killE,killB,kill,kills,St.kill,isD,isC,Nat.reduceLT,Nat.reduceLeDiff,enS_kill,ft_0,ms_1,ms_k,ms_wf,ms_le,yC,yB,yA]
   exact ⟨hii, hi', by omega, by simp only [lo, hi]; omega, i + 1, ⟨hi', by omega⟩, ⟨by omega, by rw [s1]⟩, by rw [s2, yG]; rfl, by rw [s1], by rw [s2, htD, yI]; rfl⟩
 ·have hd : decide ((i : Int) < (m.fl.length : Int)) = false := decide_eq_false (by omega)
  have hie : i = m.fl.length := by omega
  subst hie
  rw [yY]
  generalize keptD (goF nds) m.fl = K at *
  generalize outsD (goF nds) Fet.id m.fl = D at *
  have htK : yE K.length (K.map Fet.enc) = K.map Fet.enc := yD (by simp)
  simp -implicitDefEqProofs only [rX,↓rY,ofConst,cells?,splice,↓reduceIte,Nat.reduceEqDiff,Nat.reduceAdd,isC,Nat.reduceLeDiff,ms_len,ms_1,yA,hd,↓frzP_n,↓frzP_c,↓frzQ_s,↓frz1_a,↓aw_frz,get_frzE,frzV,frzL,frzB,Nat.reduceEqDiff,htK,ms_frz]
  intro _
  rw [hR]
  have hz : ((m.wt.length : Int) == 0) = decide (m.wt = []) := by
   cases m.wt with
   | nil => rfl
   | cons a l => simp; omega
  simp -implicitDefEqProofs only [rX,↓rY,yA,hz]
  intro _
  generalize hd0 : decide (m.wt = []) = d0
  refine loopP_ghost (.virt 1 3 (by decide) (.nilE 10 6 rfl (.refl _))) (fun i : Nat => ⟨[(11, .i i), (10, .sl 6 0 (putS (geM m.key) (eqM m.key) ⟨m.key, K, m.wt⟩ d0 (j.l.take i)).length), (9, .b (d0 || (j.l.take i).any (geM m.key))), (5, .ptr 3 0 0), (4, .ptr 2 0 0), (3, .ptr 1 0 0), (2, .ptr 0 0 0)], [.var j.enc, .var [sv m.key, fets K, wais m.wt], .var [.i 0, .nil, .nil, .nil, .nil, .i 0], .var [.i 0, .nil, .nil, .nil, .sl 5 0 D.length, .i 0], .dead, .arr 1 (D.map encI), .arr 3 ((putS (geM m.key) (eqM m.key) ⟨m.key, K, m.wt⟩ d0 (j.l.take i)).map Mis.enc)], 6⟩) (fun i => i ≤ j.l.length) (fun i => j.l.length - i) 0 (by omega) ?_ ?_
  ·simp -implicitDefEqProofs only [rX,↓reduceIte,Nat.reduceEqDiff,reduceCtorEq,leE,leH,leB,leV,leVs,keepP,liveP,wfE,wfB,wfV,wfL,vF,putS,List.any_nil,vL,yT,get_frzE,frzV,Nat.reduceEqDiff]
  rintro i hi0
  unfold c50l1
  have hPl := (putS_len (ge := geM m.key) (eq := eqM m.key) (m := (⟨m.key, K, m.wt⟩ : Mis)) (l := j.l.take i) (d := d0)).1
  rw [yZ hi0] at hPl
  rcases yN i j.l.length with hi' | hi'
  ·have hd : decide ((i : Int) < (j.l.length : Int)) = true := decide_eq_true (by omega)
   have hii : (0 : Int) ≤ i ∧ (i : Int) < j.l.length := ⟨by omega, by omega⟩
   have hstep := putS_step (ge := geM m.key) (eq := eqM m.key) (m := (⟨m.key, K, m.wt⟩ : Mis)) (l := j.l.take i) (d := d0) (x := j.l[i])
   rw [← vB hi'] at hstep
   have hany : (d0 || (j.l.take (i + 1)).any (geM m.key)) = ((d0 || (j.l.take i).any (geM m.key)) || geM m.key j.l[i]) := by
    rw [vB hi', uX, ← uY]; simp
   generalize putS (geM m.key) (eqM m.key) ⟨m.key, K, m.wt⟩ d0 (j.l.take i) = s at *
   have hts : yE s.length (s.map Mis.enc) = s.map Mis.enc := yD (by simp)
   have hEq : eqM m.key j.l[i] = (j.l[i].key == m.key) := by unfold eqM; rw [Bool.eq_iff_iff]; simp
   have hGe : geM m.key j.l[i] = !decide (j.l[i].key < m.key) := rfl
   rw [hEq, hGe] at hstep
   rw [hGe] at hany
   cases hE : j.l[i].key == m.key with
   | true =>
    cases hA : (d0 || (j.l.take i).any (geM m.key)) with
    | true =>
     simp only [hE, hA, vJ, vK, yA, vI, vO, vA, vP, vL, vQ, vM, if_true, if_false, yJ, vE] at hstep hany
     simp -implicitDefEqProofs only [rX,↓rY,ofConst,↓reduceIte,Nat.reduceEqDiff,Nat.reduceAdd,leE,leH,leB,leV,leVs,keepP,liveP,wfE,wfB,wfV,wfL,sb_list,k_nil,ms_0,yA,hd,hE]
     exact fun _ => ⟨hii, hi', by simp only [lo, hi]; omega, i + 1, ⟨hi', by omega⟩, ⟨by omega, by rw [hstep], hany.symm⟩, by rw [hstep]⟩
    | false =>
     cases hL : decide (j.l[i].key < m.key) with
     | true =>
      simp only [hE, hA, hL, vJ, vK, yA, vI, vO, vA, vP, vL, vQ, vM, if_true, if_false, yJ, vE] at hstep hany
      simp -implicitDefEqProofs only [rX,↓rY,ofConst,↓reduceIte,Nat.reduceEqDiff,Nat.reduceAdd,leE,leH,leB,leV,leVs,keepP,liveP,wfE,wfB,wfV,wfL,sb_list,less,k_nil,ms_0,yA,hd,hE,hL]
      exact fun _ => ⟨hii, hi', hii, hi', by simp only [lo, hi]; omega, i + 1, ⟨hi', by omega⟩, ⟨by omega, by rw [hstep], hany.symm⟩, by rw [hstep]⟩
     | false =>
      simp only [hE, hA, hL, vJ, vK, yA, vI, vO, vA, vP, vL, vQ, vM, if_true, if_false, yJ, vE] at hstep hany
      simp -implicitDefEqProofs only [rX,↓rY,ofConst,cells?,↓reduceIte,Nat.reduceEqDiff,Nat.reduceAdd,reduceCtorEq,freshP,litsP,leE,leH,leB,leV,leVs,keepP,liveP,wfE,wfB,wfV,wfL,killE,killB,kill,kills,St.kill,isD,Nat.reduceLT,sb_list,less,k_nil,ms_0,yB,yA,hd,hE,hL,↓op_litsf,↓frzP_n,↓frzP_c,↓frzQ_a]
      exact fun _ => ⟨hii, hi', by omega, hii, hi', by simp only [lo, hi]; omega, i + 1, ⟨hi', by omega⟩, ⟨by omega, by rw [hstep, yG]; rfl, hany.symm⟩, by rw [hstep, hts, yI]; rfl⟩
   | false =>
    cases hA : (d0 || (j.l.take i).any (geM m.key)) with
    | true =>
     simp only [hE, hA, vJ, vK, yA, vI, vO, vA, vP, vL, vQ, vM, if_true, if_false, yJ, vE] at hstep hany
     simp -implicitDefEqProofs only [rX,↓rY,ofConst,cells?,↓reduceIte,Nat.reduceEqDiff,Nat.reduceAdd,reduceCtorEq,freshP,litsP,leE,leH,leB,leV,leVs,keepP,liveP,wfE,wfB,wfV,wfL,killE,killB,kill,kills,St.kill,Nat.reduceLT,sb_list,k_nil,ms_len,ms_t,ms_0,ms_D,ms_k,yB,yA,hd,hE,↓op_litsf,↓frzP_n,↓frzP_c,↓frzQ_a]
     exact fun _ => ⟨hii, hi', hii, hi', by omega, by simp only [lo, hi]; omega, i + 1, ⟨hi', by omega⟩, ⟨by omega, by rw [hstep, yG]; rfl, hany.symm⟩, by rw [hstep, hts, yI]; rfl⟩
    | false =>
     cases hL : decide (j.l[i].key < m.key) with
     | true =>
      simp only [hE, hA, hL, vJ, vK, yA, vI, vO, vA, vP, vL, vQ, vM, if_true, if_false, yJ, vE] at hstep hany
      simp -implicitDefEqProofs only [rX,↓rY,ofConst,cells?,↓reduceIte,Nat.reduceEqDiff,Nat.reduceAdd,reduceCtorEq,freshP,litsP,leE,leH,leB,leV,leVs,keepP,liveP,wfE,wfB,wfV,wfL,killE,killB,kill,kills,St.kill,Nat.reduceLT,sb_list,less,k_nil,ms_len,ms_t,ms_0,ms_D,ms_k,yB,yA,hd,hE,hL,↓op_litsf,↓frzP_n,↓frzP_c,↓frzQ_a]
      exact fun _ => ⟨hii, hi', hii, hi', hii, hi', by omega, by simp only [lo, hi]; omega, i + 1, ⟨hi', by omega⟩, ⟨by omega, by rw [hstep, yG]; rfl, hany.symm⟩, by rw [hstep, hts, yI]; rfl⟩
     | false =>
      simp only [hE, hA, hL, vJ, vK, yA, vI, vO, vA, vP, vL, vQ, vM, if_true, if_false, yJ, vE] at hstep hany
      simp -implicitDefEqProofs only [rX,↓rY,ofConst,cells?,↓reduceIte,Nat.reduceEqDiff,Nat.reduceAdd,reduceCtorEq,freshP,litsP,leE,leH,leB,leV,leVs,keepP,liveP,wfE,wfB,wfV,wfL,killE,killB,kill,kills,St.kill,isD,Nat.reduceLT,Nat.reduceLeDiff,sb_list,less,k_nil,ms_len,ms_t,ms_0,ms_D,ms_k,yB,yA,hd,hE,hL,↓op_litsf,↓frzP_n,↓frzP_c,↓frzQ_a]
      refine fun _ => ⟨hii, hi', by omega, hii, hi', hii, hi', ⟨by rw [hts]; simp, by omega⟩, by simp only [lo, hi]; omega, i + 1, ⟨hi', by omega⟩, ⟨by omega, by rw [hstep]; simp, hany.symm⟩, ?_⟩
      rw [hstep, hts, yD (by simp), yI, vD]; rfl
  ·have hd : decide ((i : Int) < (j.l.length : Int)) = false := decide_eq_false (by omega)
   have hie : i = j.l.length := by omega
   subst hie
   have hend := putS_end (ge := geM m.key) (eq := eqM m.key) (m := (⟨m.key, K, m.wt⟩ : Mis)) (l := j.l) (d := d0)
   rw [yY] at hPl ⊢
   generalize putS (geM m.key) (eqM m.key) ⟨m.key, K, m.wt⟩ d0 j.l = s at *
   have hts : yE s.length (s.map Mis.enc) = s.map Mis.enc := yD (by simp)
   have htD : yE D.length (D.map encI) = D.map encI := yD (by simp)
   cases hA : (d0 || j.l.any (geM m.key)) with
   | true =>
    simp only [hA, if_true, yJ] at hend
    rw [hend]
    simp -implicitDefEqProofs only [rX,↓rY,cells?,splice,↓reduceIte,Nat.reduceEqDiff,Nat.reduceAdd,buildP,resP,tupV,keepP,liveP,wfV,wfL,isC,Nat.reduceLeDiff,k_nil,yC,yB,yA,hd,retP_eq]
    refine fun _ => ⟨[.dead, .dead, .dead, .dead, .dead, .arr 1 (D.map encI), .arr 3 (s.map Mis.enc)], ⟨by simp [leH, leB], yV _, by simp, by simp [wfB]⟩, ?_⟩
    simp [Gv, tupV, gvV, gvL, wk, wkL, wkR, wfV, wfL, blk, hts, htD, Chg.enc]
   | false =>
    simp only [hA, vM, if_false] at hend
    rw [hend]
    simp -implicitDefEqProofs only [rX,↓rY,cells?,splice,↓reduceIte,Nat.reduceEqDiff,Nat.reduceAdd,reduceCtorEq,freshP,buildP,litsP,resP,tupV,keepP,liveP,wfV,wfL,killE,killB,kill,kills,St.kill,isD,isC,Nat.reduceLT,Nat.reduceLeDiff,k_nil,yC,yB,yA,hd,retP_eq,↓op_litsf,↓frzP_n,↓frzP_c,↓frzQ_a]
    have hts2 : yE (s.length + 1) (s.map Mis.enc ++ [[sv m.key, fets K, wais m.wt]]) = s.map Mis.enc ++ [[sv m.key, fets K, wais m.wt]] := yD (by simp)
    rw [hts]
    refine fun _ => ⟨by omega, [.dead, .dead, .dead, .dead, .dead, .arr 1 (D.map encI), .arr 3 (s.map Mis.enc ++ [[sv m.key, fets K, wais m.wt]])], ⟨by simp [leH, leB], yV _, by simp, by simp [wfB]⟩, ?_⟩
    simp [Gv, tupV, gvV, gvL, wk, wkL, wkR, wfV, wfL, blk, hts2, htD, Chg.enc, Mis.enc]
end Go.Fx.J
namespace Go.Fx.J
open Go Go.Fx Go.Proofs Go.Fx.R
set_option maxRecDepth 20000
def noC (j : Jns) (e : Int) : Chg := ⟨j, [], [], [], e⟩
end Go.Fx.J
