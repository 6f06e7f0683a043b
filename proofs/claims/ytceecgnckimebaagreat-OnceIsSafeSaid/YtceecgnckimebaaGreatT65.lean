import Derived.Test.YtceecgnckimebaaGreatT11
set_option linter.unusedVariables false
set_option linter.unusedSimpArgs false
set_option linter.unusedSectionVars false
open Bool renaming true_and → yA, and_eq_true → yM, eq_iff_iff → vJ, false_eq_true → uB, or_eq_false_iff → uI
open List renaming take_succ_cons → yB, drop_succ_cons → yC, take_of_length_le → yD, take → yG, getElem_mem → yH, map_cons → yJ, sum_cons → yK, map_append → yL, getElem_of_mem → yN, mem_cons → yO, replicate_succ → yP, filter_cons_of_neg → yQ, mem_filter → yS, take_add_one → yT, getElem?_eq_getElem → yU, map → yV, foldl_cons → yX, mem_append → yY, mem_singleton → yZ, length_take → vA, getElem_set → vD, pairwise_iff_getElem → vE, filter_eq_nil_iff → vF, find?_cons_of_neg → vG, foldl_nil → vH, length_append → vI, filter_eq_self → vK, any_eq_true → vL, filter_cons_of_pos → vM, length_cons → vN, length_set → vO, foldl_append → vP, length_eq_zero_iff → vQ, mem_of_mem_take → vR, filter_append → vS, getElem_cons_succ → vU, find?_cons_of_pos → vV, getElem_cons_zero → vW, filter_cons → vX, any_eq_false → vZ, length_filter_le → uC, map_nil → uD, set_getElem_self → uF, length_singleton → uG, map_congr_left → uH, getElem_set_self → uJ
open Int renaming le_refl → yE, natCast_zero → yF, toNat → yW, lt_trichotomy → uA
open Nat renaming lt_or_ge → yI, le_refl → vB, le_trans → vC, not_lt_zero → vT, add_zero → vY, zero_add → uE
namespace Go.Fx.O
open Go Go.Fx Go.Proofs Go.Fx.R
set_option maxRecDepth 20000
theorem cut1_len {s t : Sp} : (cut1 s t).length ≤ 2 := by
 unfold cut1
 split <;> split <;> simp
theorem ok67 (l : List Sp) (s : Sp) (hl : l.length ≤ 2199023255552) : Ok 67 [spans l, .agg (enS s)] (Is (spans (cutS l s))) := by
 refine okN_gv ?_
 refine ok_of lw67 (by simp) ?_
 unfold c67 spans
 simp -implicitDefEqProofs only [rX,↓rY,ofConst,cells?,↓reduceIte,Nat.reduceEqDiff,reduceCtorEq,freshP,cxN,enS_len,enS_take,args0]
 refine call_is (ok81 s) ⟨⟨⟨trivial, trivial, trivial⟩, trivial⟩, ⟨rfl, rfl, trivial⟩, trivial⟩ rfl trivial ?_
 cases hs : decide (s.2 ≤ s.1) with
 | true =>
  simp -implicitDefEqProofs only [rX,↓rY,↓reduceIte,Nat.reduceEqDiff,reduceCtorEq,freshP,litsP,killE,killB,kill,St.kill,enS_kill]
  have e : cutS l s = l := if_pos (by simpa using hs)
  refine ⟨by simp, by omega, ?_⟩
  refine ret_sl rfl (sz := 2) ?_ ?_
  ·rw [e]; rfl
  ·rw [e]; simp
 | false =>
  have e : cutS l s = l.flatMap (cut1 s) := if_neg (by simpa using hs)
  simp -implicitDefEqProofs only [rX,↓rY,ofConst,↓reduceIte]
  refine loopP_ghost (.virt 1 2 (by decide) (.nilE 5 1 rfl (.refl _))) (fun k : Nat => ⟨[(6, .i k), (5, .sl 1 0 ((l.take k).flatMap (cut1 s)).length), (3, .ptr 0 0 0), (0, .ro 2 (l.map enS))], [.var [.i s.1, .i s.2], .arr 2 (((l.take k).flatMap (cut1 s)).map enS)], 0⟩)
   (fun k => k ≤ l.length ∧ ((l.take k).flatMap (cut1 s)).length ≤ 2 * k) (fun k => l.length - k) 0 ⟨by omega, by simp⟩ ?_ ?_
  ·simp -implicitDefEqProofs only [rX,↓reduceIte,Nat.reduceEqDiff,reduceCtorEq,leE,leH,leB,leV,leVs,keepP,liveP,wfE,wfB,wfV,wfL,yF,yP,enS,List.flatMap_nil]
  rintro k ⟨hk, hol⟩
  generalize ho : (l.take k).flatMap (cut1 s) = o at hol
  unfold c67l0
  simp -implicitDefEqProofs only [rX,↓rY,rdK,ofConst,cells?,splice,↓reduceIte,Nat.reduceEqDiff,Nat.reduceAdd,reduceCtorEq,freshP,buildP,isC,Nat.reduceLeDiff,enS_0,enS_1]
  intro hm
  simp only [br, decide_eq_true_eq, decide_eq_false_iff_not]
  refine ⟨fun h => ?_, fun h => ?_⟩
  ·have hk' : k < l.length := by omega
   have hkk : (0 : Int) ≤ k ∧ (k : Int) < l.length := ⟨by omega, h⟩
   have hstep : (l.take (k + 1)).flatMap (cut1 s) = o ++ cut1 s l[k] := by
    rw [yT, yU hk', List.flatMap_append, ho]; simp
   have hc2 := cut1_len (s := s) (t := l[k])
   have hend : ∀ (o' : List Sp) (n : Nat) (L : List (List V)), o' = o ++ cut1 s l[k] → n = o'.length → L = o'.map enS →
     ((lo IntKind.i64 ≤ (k : Int) + 1 ∧ (k : Int) + 1 ≤ hi IntKind.i64) ∧ ∃ g', ((g' ≤ l.length ∧ ((l.take g').flatMap (cut1 s)).length ≤ 2 * g') ∧ l.length - g' < l.length - k) ∧ ((k : Int) + 1 = (g' : Int) ∧ V.sl 1 0 n = V.sl 1 0 ((l.take g').flatMap (cut1 s)).length) ∧ Blk.arr 2 L = Blk.arr 2 (((l.take g').flatMap (cut1 s)).map enS)) := by
    rintro o' n L rfl rfl rfl
    refine ⟨by simp only [lo, hi, maxLen] at *; omega, k + 1, ⟨⟨by omega, by rw [hstep, vI]; omega⟩, by omega⟩, ?_⟩
    rw [hstep]
    exact ⟨⟨by simp, rfl⟩, rfl⟩
   have htk : yG o.length (o.map enS) = o.map enS := take_map rfl
   refine ⟨hkk, hk', hkk, hk', hkk, hk', hkk, hk', ?_⟩
   have hcut : cut1 s l[k] = (if min l[k].2 s.1 ≤ l[k].1 then [] else [(l[k].1, min l[k].2 s.1)]) ++ (if l[k].2 ≤ max l[k].1 s.2 then [] else [(max l[k].1 s.2, l[k].2)]) := rfl
   refine call_is (ok81 (l[k].1, min l[k].2 s.1)) ⟨⟨⟨trivial, trivial, trivial⟩, trivial⟩, ⟨rfl, rfl, trivial⟩, trivial⟩ rfl trivial ?_
   cases h1 : decide (min l[k].2 s.1 ≤ l[k].1) with
   | true =>
    simp -implicitDefEqProofs only [rX,↓rY,↓reduceIte,Nat.reduceEqDiff,Nat.reduceAdd]
    refine call_is (ok81 (max l[k].1 s.2, l[k].2)) ⟨⟨⟨trivial, trivial, trivial⟩, trivial⟩, ⟨rfl, rfl, trivial⟩, trivial⟩ rfl trivial ?_
    have h1' : min l[k].2 s.1 ≤ l[k].1 := by simpa using h1
    cases h2 : decide (l[k].2 ≤ max l[k].1 s.2) with
    | true =>
     have h2' : l[k].2 ≤ max l[k].1 s.2 := by simpa using h2
     simp -implicitDefEqProofs only [rX,↓rY,ofConst,↓reduceIte,Nat.reduceEqDiff,Nat.reduceAdd,reduceCtorEq,leE,leH,leB,leV,leVs,keepP,liveP,wfE,wfB,wfV,wfL]
     exact hend o _ _ (by rw [hcut, if_pos h1', if_pos h2']; simp) rfl rfl
    | false =>
     have h2' : ¬ l[k].2 ≤ max l[k].1 s.2 := by simpa using h2
     simp -implicitDefEqProofs only [rX,↓rY,ofConst,cells?,↓reduceIte,Nat.reduceEqDiff,Nat.reduceAdd,reduceCtorEq,freshP,litsP,leE,leH,leB,leV,leVs,keepP,liveP,wfE,wfB,wfV,wfL,killE,killB,kill,kills,St.kill,isD,Nat.reduceLT]
     refine ⟨by omega, ?_⟩
     exact hend (o ++ [(max l[k].1 s.2, l[k].2)]) _ _ (by rw [hcut, if_pos h1', if_neg h2']; simp) (by simp) (by rw [htk, yL]; rfl)
   | false =>
    have h1' : ¬ min l[k].2 s.1 ≤ l[k].1 := by simpa using h1
    simp -implicitDefEqProofs only [rX,↓rY,cells?,↓reduceIte,Nat.reduceEqDiff,Nat.reduceAdd,reduceCtorEq,freshP,litsP,killE,killB,kill,kills,St.kill,isD,Nat.reduceLT]
    refine ⟨by omega, ?_⟩
    refine call_is (ok81 (max l[k].1 s.2, l[k].2)) ⟨⟨⟨trivial, trivial, trivial⟩, trivial⟩, ⟨rfl, rfl, trivial⟩, trivial⟩ rfl trivial ?_
    cases h2 : decide (l[k].2 ≤ max l[k].1 s.2) with
    | true =>
     have h2' : l[k].2 ≤ max l[k].1 s.2 := by simpa using h2
     simp -implicitDefEqProofs only [rX,↓rY,ofConst,↓reduceIte,Nat.reduceEqDiff,Nat.reduceAdd,reduceCtorEq,leE,leH,leB,leV,leVs,keepP,liveP,wfE,wfB,wfV,wfL]
     exact hend (o ++ [(l[k].1, min l[k].2 s.1)]) _ _ (by rw [hcut, if_neg h1', if_pos h2']; simp) (by simp) (by rw [htk, yL]; rfl)
    | false =>
     have h2' : ¬ l[k].2 ≤ max l[k].1 s.2 := by simpa using h2
     simp -implicitDefEqProofs only [rX,↓rY,ofConst,cells?,↓reduceIte,Nat.reduceEqDiff,Nat.reduceAdd,reduceCtorEq,freshP,litsP,leE,leH,leB,leV,leVs,keepP,liveP,wfE,wfB,wfV,wfL,killE,killB,kill,kills,St.kill,isD,Nat.reduceLT,Nat.reduceLeDiff]
     refine ⟨⟨by simp, by omega⟩, ?_⟩
     refine hend (o ++ [(l[k].1, min l[k].2 s.1), (max l[k].1 s.2, l[k].2)]) _ _ (by rw [hcut, if_neg h1', if_neg h2']; simp) (by simp) ?_
     rw [htk, yD (by simp), yL]
     simp [enS]
  ·rw [yD (by omega)] at ho
   have e' : cutS l s = o := by rw [e, ho]
   rw [e']
   exact ret_sl rfl rfl (by simp)
theorem fold_cut {a b : List Sp} {k : Nat} (h : k < b.length) : minusS a (b.take (k + 1)) = cutS (minusS a (b.take k)) b[k] := by
 unfold minusS
 rw [yT, yU h, vP]; rfl
theorem ok46 (a b : List Sp) (ha : Vd a) : Ok 46 [spans a, spans b] (Is (spans (minusS a b))) := by
 refine okN_gv ?_
 refine ok_of lw46 (by simp) ?_
 have hal := ha.len
 unfold c46 spans
 simp -implicitDefEqProofs only [rX,↓rY,ofConst,↓reduceIte,Nat.reduceEqDiff,Nat.reduceAdd,reduceCtorEq,freshP,litsP,killE,killB,kill,St.kill,cxN,args0]
 refine ⟨by simp, by omega, ?_⟩
 have htk : yG a.length (a.map enS) = a.map enS := take_map rfl
 refine loopP_ghost (.give (fun k => k == 0) (by simp) (.refl _)) (fun k : Nat => ⟨[(6, .i k), (5, .ro 2 ((minusS a (b.take k)).map enS)), (1, .ro 2 (b.map enS))], [], 0⟩) (fun k => k ≤ b.length) (fun k => b.length - k) 0 (by omega) ?_ ?_
 ·simp -implicitDefEqProofs only [rX,↓reduceIte,Nat.reduceEqDiff,reduceCtorEq,leE,leH,keepP,wfE,wfB,wfV,St.give,gvE,gvV,gvH,gvB,Nat.reduceBEq,yF,htk]
  rfl
 rintro k hk
 have hv : Vd (minusS a (b.take k)) := ha.minus
 have hvl := hv.len
 unfold c46l0
 simp -implicitDefEqProofs only [rX,↓rY,↓reduceIte,Nat.reduceEqDiff,enS_len,enS_take]
 intro hm
 simp only [br, decide_eq_true_eq, decide_eq_false_iff_not]
 refine ⟨fun h => ?_, fun h => ?_⟩
 ·have hk' : k < b.length := by omega
  refine ⟨⟨by omega, h⟩, hk', ?_⟩
  refine call_is (ok67 (minusS a (b.take k)) b[k] (by omega)) ⟨⟨trivial, ⟨trivial, trivial, trivial⟩, trivial⟩, ⟨rfl, rfl⟩, ⟨rfl, rfl, trivial⟩, trivial⟩ rfl trivial ?_
  simp -implicitDefEqProofs only [rX,↓rY,ofConst,↓reduceIte,Nat.reduceEqDiff,leE,leH,keepP,wfE,wfB,wfV]
  refine ⟨by simp only [lo, hi, maxLen] at *; omega, k + 1, ⟨by omega, by omega⟩, ?_⟩
  rw [fold_cut hk']
  simp
 ·rw [yD (by omega)]
  exact ret_ro rfl
theorem ok64 (a b : List Sp) (ha : Vd a) : Ok 64 [spans a, spans b] (Is (spans (meetS a b))) := by
 refine ok_of lw64 (by simp) ?_
 unfold c64
 simp -implicitDefEqProofs only [rX,ofConst,↓reduceIte,Nat.reduceEqDiff,reduceCtorEq,cxN,args0]
 refine call_is (ok46 a b ha) ⟨⟨trivial, trivial, trivial⟩, ⟨rfl, rfl⟩, ⟨rfl, rfl⟩, trivial⟩ rfl trivial ?_
 simp -implicitDefEqProofs only [rX,↓reduceIte,Nat.reduceEqDiff]
 refine call_is (ok46 a (minusS a b) ha) ⟨⟨trivial, trivial, trivial⟩, ⟨rfl, rfl⟩, ⟨rfl, rfl⟩, trivial⟩ rfl trivial ?_
 simp -implicitDefEqProofs only [rX,↓reduceIte,resP,tupV,wfV]
 rfl
end Go.Fx.O
namespace Go.Fx.O
open Go Go.Fx Go.Proofs Go.Fx.R
set_option maxRecDepth 20000
def partyB (n : Int) : Bool := decide (n ≥ 0) && decide (n < 128)
def countsB (n : Int) : Bool := decide (n ≥ 1) && decide (n ≤ 1099511627776)
theorem ok41 (n : Int) : Ok 41 [.i n] (Is (.b (partyB n))) := by
 refine ok_of lw41 (by simp) ?_
 unfold c41 partyB
 simp -implicitDefEqProofs only [rX,↓rY,ofConst,↓reduceIte,Nat.reduceEqDiff,reduceCtorEq,resP,tupV,wfV,cxN,args0]
 cases h1 : decide (n ≥ 0) <;> simp -implicitDefEqProofs only [↓rY] <;> simp
theorem ok33 (n : Int) : Ok 33 [.i n] (Is (.b (partyB n))) := by
 refine ok_of lw33 (by simp) ?_
 unfold c33 partyB
 simp -implicitDefEqProofs only [rX,↓rY,ofConst,↓reduceIte,Nat.reduceEqDiff,reduceCtorEq,resP,tupV,wfV,cxN,args0]
 cases h1 : decide (n ≥ 0) <;> simp -implicitDefEqProofs only [↓rY] <;> simp
theorem ok52 (n : Int) : Ok 52 [.i n] (Is (.b (countsB n))) := by
 refine ok_of lw52 (by simp) ?_
 unfold c52 countsB
 simp -implicitDefEqProofs only [rX,↓rY,ofConst,↓reduceIte,Nat.reduceEqDiff,reduceCtorEq,resP,tupV,wfV,cxN,args0]
 cases h1 : decide (n ≥ 1) <;> simp -implicitDefEqProofs only [↓rY] <;> simp
theorem ok53 (n : Int) : Ok 53 [.i n] (Is (.b (countsB n))) := by
 refine ok_of lw53 (by simp) ?_
 unfold c53 countsB
 simp -implicitDefEqProofs only [rX,↓rY,ofConst,↓reduceIte,Nat.reduceEqDiff,reduceCtorEq,resP,tupV,wfV,cxN,args0]
 cases h1 : decide (n ≥ 1) <;> simp -implicitDefEqProofs only [↓rY] <;> simp
structure Us (l : List Sp) : Prop where
 v : Vd l
 n : l.length ≤ 1000
 b : ∀ s ∈ l, 1 ≤ s.1 ∧ s.2 ≤ 1073741825
def endsB (l : List Sp) : Bool := if h : 0 < l.length then decide (l[0].1 ≥ 1) && decide ((l[l.length - 1]'(by omega)).2 ≤ 1073741825) else true
def usB (l : List Sp) : Bool := vd l && decide (l.length ≤ 1000) && endsB l
theorem endsB_iff {l : List Sp} (h : Vd l) : endsB l = true ↔ ∀ s ∈ l, 1 ≤ s.1 ∧ s.2 ≤ 1073741825 := by
 unfold endsB
 split
 ·rename_i h0
  have hp := vE.1 h.1.2
  simp only [yM, decide_eq_true_eq]
  constructor
  ·rintro ⟨h1, h2⟩ s hs
   obtain ⟨k, hk, rfl⟩ := yN hs
   have h3 := h.1.1 _ (yH h0)
   have h4 := h.1.1 _ (yH (show l.length - 1 < l.length by omega))
   have h5 := h.1.1 _ (yH hk)
   constructor
   ·by_cases e : k = 0
    ·subst e; exact h1
    ·have := hp 0 k h0 hk (by omega); omega
   ·by_cases e : k = l.length - 1
    ·subst e; exact h2
    ·have := hp k (l.length - 1) hk (by omega) (by omega); omega
  ·exact fun h2 => ⟨(h2 _ (yH _)).1, (h2 _ (yH _)).2⟩
 ·rename_i h0
  have : l = [] := vQ.1 (by omega)
  subst this
  simp
theorem usB_iff {l : List Sp} : usB l = true ↔ Us l := by
 unfold usB
 rw [yM, yM, decide_eq_true_eq, vd_iff]
 constructor
 ·rintro ⟨⟨h1, h2⟩, h3⟩
  exact ⟨h1, h2, (endsB_iff h1).1 h3⟩
 ·rintro ⟨h1, h2, h3⟩
  exact ⟨⟨h1, h2⟩, (endsB_iff h1).2 h3⟩
theorem ok59 (l : List Sp) : Ok 59 [spans l] (Is (.b (usB l))) := by
 refine ok_of lw59 (by simp) ?_
 unfold c59 usB
 simp -implicitDefEqProofs only [rX,ofConst,↓reduceIte,reduceCtorEq,cxN,args0]
 refine call_is (ok77 l) ⟨⟨trivial, trivial⟩, ⟨rfl, rfl⟩, trivial⟩ rfl trivial ?_
 cases h1 : vd l with
 | false => simp -implicitDefEqProofs only [rX,↓rY,ofConst,↓reduceIte,Nat.reduceEqDiff,resP,tupV,wfV]; simp
 | true =>
  cases h2 : decide (l.length ≤ 1000) with
  | false =>
   have h2' : decide ((l.length : Int) ≤ 1000) = false := decide_eq_false (by have := of_decide_eq_false h2; omega)
   simp -implicitDefEqProofs only [rX,↓rY,ofConst,↓reduceIte,Nat.reduceEqDiff,reduceCtorEq,resP,tupV,wfV,enS_0,enS_1,h2']; simp
  | true =>
   have h2' : decide ((l.length : Int) ≤ 1000) = true := decide_eq_true (by have := of_decide_eq_true h2; omega)
   by_cases h3 : 0 < l.length
   ·have h3' : ((l.length : Int) == 0) = false := by rw [beq_eq_false_iff_ne]; omega
    have hto : ((l.length : Int) - 1).toNat = l.length - 1 := by omega
    unfold endsB
    simp -implicitDefEqProofs only [rX,↓rY,ofConst,↓reduceIte,Nat.reduceEqDiff,reduceCtorEq,resP,tupV,wfV,enS_0,enS_1,h2',h3',dif_pos h3]
    refine fun hm _ => ⟨⟨by omega, by omega⟩, by simpa using h3, ?_⟩
    cases h4 : decide (l[0].1 ≥ 1) with
    | false =>
     have h4' : decide ((l[yW 0]'(by simpa using h3)).1 ≥ 1) = false := h4
     simp -implicitDefEqProofs only [↓rY,h4']; simp
    | true =>
     have h4' : decide ((l[yW 0]'(by simpa using h3)).1 ≥ 1) = true := h4
     simp -implicitDefEqProofs only [↓rY,h4',hto]
     simp
     simp only [lo, hi, maxLen] at *
     omega
   ·have h3' : ((l.length : Int) == 0) = true := by rw [show l.length = 0 by omega]; rfl
    unfold endsB
    simp -implicitDefEqProofs only [rX,↓rY,ofConst,↓reduceIte,Nat.reduceEqDiff,reduceCtorEq,resP,tupV,wfV,enS_0,enS_1,h2',h3',dif_neg h3]
    simp
theorem ok32 (l : List Sp) : Ok 32 [spans l] (Is (.b (usB l))) := by
 refine ok_of lw32 (by simp) ?_
 unfold c32 usB
 simp -implicitDefEqProofs only [rX,ofConst,↓reduceIte,reduceCtorEq,cxN,args0]
 refine call_is (ok63 l) ⟨⟨trivial, trivial⟩, ⟨rfl, rfl⟩, trivial⟩ rfl trivial ?_
 cases h1 : vd l with
 | false => simp -implicitDefEqProofs only [rX,↓rY,ofConst,↓reduceIte,Nat.reduceEqDiff,resP,tupV,wfV]; simp
 | true =>
  cases h2 : decide (l.length ≤ 1000) with
  | false =>
   have h2' : decide ((1000 : Int) < (l.length : Int)) = true := decide_eq_true (by have := of_decide_eq_false h2; omega)
   simp -implicitDefEqProofs only [rX,↓rY,ofConst,↓reduceIte,Nat.reduceEqDiff,reduceCtorEq,resP,tupV,wfV,enS_0,enS_1,h2']; simp
  | true =>
   have h2' : decide ((1000 : Int) < (l.length : Int)) = false := decide_eq_false (by have := of_decide_eq_true h2; omega)
   by_cases h3 : 0 < l.length
   ·have h3' : ((l.length : Int) == 0) = false := by rw [beq_eq_false_iff_ne]; omega
    have hto : ((l.length : Int) - 1).toNat = l.length - 1 := by omega
    unfold endsB
    simp -implicitDefEqProofs only [rX,↓rY,ofConst,↓reduceIte,Nat.reduceEqDiff,reduceCtorEq,resP,tupV,wfV,enS_0,enS_1,h2',h3',dif_pos h3]
    refine fun hm _ => ⟨⟨by omega, by omega⟩, by simpa using h3, ?_⟩
    cases h4 : decide (l[0].1 ≥ 1) with
    | false =>
     have h4' : decide ((l[yW 0]'(by simpa using h3)).1 ≥ 1) = false := h4
     simp -implicitDefEqProofs only [↓rY,h4']; simp
    | true =>
     have h4' : decide ((l[yW 0]'(by simpa using h3)).1 ≥ 1) = true := h4
     simp -implicitDefEqProofs only [↓rY,h4',hto]
     simp
     simp only [lo, hi, maxLen] at *
     omega
   ·have h3' : ((l.length : Int) == 0) = true := by rw [show l.length = 0 by omega]; rfl
    unfold endsB
    simp -implicitDefEqProofs only [rX,↓rY,ofConst,↓reduceIte,Nat.reduceEqDiff,reduceCtorEq,resP,tupV,wfV,enS_0,enS_1,h2',h3',dif_neg h3]
    simp
theorem ok34 (A B : List Sp) (hA : Vd A) : Ok 34 [spans A, spans B] (Is (.b (decide ((meetS A B).length = 0)))) := by
 refine ok_of lw34 (by simp) ?_
 unfold c34
 simp -implicitDefEqProofs only [rX,ofConst,↓reduceIte,Nat.reduceEqDiff,reduceCtorEq,cxN,args0]
 refine call_is (ok64 A B hA) ⟨⟨trivial, trivial, trivial⟩, ⟨rfl, rfl⟩, ⟨rfl, rfl⟩, trivial⟩ rfl trivial ?_
 simp -implicitDefEqProofs only [rX,↓rY,ofConst,↓reduceIte,resP,tupV,wfV]
 intro _
 rw [vJ]
 simp
theorem both_step {a b : List Sp} {k : Nat} (h : k < b.length) : bothS a (b.take (k + 1)) = addS (bothS a (b.take k)) b[k] := by
 unfold bothS
 rw [yT, yU h, vP]; rfl
theorem bd_take {b : List Sp} (h : Bd b) (k : Nat) : Bd (b.take k) := fun s hs => h s (vR hs)
theorem mid_of {l : List Sp} (h : Bd l) : Mid l := fun s hs => by have := h s hs; omega
theorem bd_app {l m : List Sp} (h1 : Bd l) (h2 : Bd m) : Bd (l ++ m) := fun s hs => (yY.1 hs).elim (h1 s) (h2 s)
theorem ok39 (a b : List Sp) (ha : Vd a) (hb : Bd b) : Ok 39 [spans a, spans b] (Is (spans (bothS a b))) := by
 refine ok_of lw39 (by simp) ?_
 unfold c39
 simp -implicitDefEqProofs only [rX,↓rY,ofConst,↓reduceIte,Nat.reduceEqDiff,reduceCtorEq,cxN,args0]
 intro hm
 refine loopP_intro (fun k : Nat => ⟨[(9, .i k), (8, .i b.length), (7, .ro 2 (b.map enS)), (0, .ro 2 ((bothS a (b.take k)).map enS))], [], 0⟩) (fun k => k ≤ b.length) (fun k => b.length - k) 0 (by omega) ?_ ?_
 ·simp -implicitDefEqProofs only [rX,↓reduceIte,Nat.reduceEqDiff,reduceCtorEq,leE,leH,keepP,wfE,wfB,wfV,yF]
  rfl
 rintro k hk
 have hv : Vd (bothS a (b.take k)) := ha.both (bd_take hb k)
 have hvl := hv.len
 unfold c39l0
 simp -implicitDefEqProofs only [rX,↓rY,ofConst,cells?,splice,↓reduceIte,Nat.reduceEqDiff,Nat.reduceAdd,reduceCtorEq,freshP,resP,tupV,wfV,enS_len,enS_take,enS_C]
 simp only [br, decide_eq_true_eq, decide_eq_false_iff_not]
 refine ⟨fun h => ?_, fun h => ?_⟩
 ·have hk' : k < b.length := by omega
  have hbk := hb _ (yH hk')
  refine ⟨⟨by omega, h⟩, hk', ?_⟩
  refine call_is (ok65 (bothS a (b.take k)) b[k] (by omega) hv.1 (mid_of (bd_app hv.2 fun s hs => by rw [yZ] at hs; subst hs; exact hbk))) ⟨⟨trivial, ⟨trivial, trivial, trivial⟩, trivial⟩, ⟨rfl, rfl⟩, ⟨rfl, rfl, trivial⟩, trivial⟩ rfl trivial ?_
  simp -implicitDefEqProofs only [rX,↓rY,ofConst,↓reduceIte,Nat.reduceEqDiff,reduceCtorEq,leE,leH,keepP,wfE,wfB,wfV]
  refine ⟨by simp only [lo, hi, maxLen] at *; omega, k + 1, ⟨by omega, by omega⟩, ?_⟩
  rw [both_step hk']
  simp
 ·rw [yD (by omega)]
end Go.Fx.O
namespace Go.Fx.O
open Go Go.Fx Go.Proofs Go.Fx.R
set_option maxRecDepth 20000
def cmpI (a b : Int) : Int := if a < b then -1 else if b < a then 1 else 0
theorem ok92 (n : Int) : Ok 92 [.i n] (Is (.b false)) := by
 refine ok_of lw92 (by simp) ?_
 unfold c92
 simp -implicitDefEqProofs only [rX,↓rY,ofConst,↓reduceIte,Nat.reduceEqDiff,reduceCtorEq,resP,tupV,wfV,cxN,args0]
 simp
theorem ok80 (a b : Int) : Ok 80 [.i a, .i b] (Is (.i (cmpI a b))) := by
 refine ok_of lw80 (by simp) ?_
 unfold c80 cmpI
 simp -implicitDefEqProofs only [rX,ofConst,↓reduceIte,reduceCtorEq,cxN,args0]
 refine call_is (ok92 a) ⟨⟨trivial, trivial⟩, rfl, trivial⟩ rfl trivial ?_
 simp -implicitDefEqProofs only [rX,↓reduceIte,Nat.reduceEqDiff,reduceCtorEq]
 refine call_is (ok92 b) ⟨⟨trivial, trivial⟩, rfl, trivial⟩ rfl trivial ?_
 simp -implicitDefEqProofs only [rX,↓rY,ofConst,↓reduceIte,Nat.reduceEqDiff,reduceCtorEq,resP,tupV,wfV]
 simp only [br, decide_eq_true_eq, decide_eq_false_iff_not]
 refine ⟨fun h1 => ?_, fun h1 => ⟨fun h2 => ?_, fun h2 => ?_⟩⟩
 ·rw [if_pos h1]
 ·rw [if_neg h1, if_pos h2]
 ·rw [if_neg h1, if_neg h2]
theorem ok79 (m : Sp) (b : Int) : Ok 79 [.agg (enS m), .i b] (Is (.i (cmpI m.1 b))) := by
 refine ok_of lw79 (by simp) ?_
 unfold c79
 simp -implicitDefEqProofs only [rX,↓rY,ofConst,cells?,↓reduceIte,Nat.reduceEqDiff,reduceCtorEq,freshP,cxN,enS_0,args0]
 refine call_is (ok80 m.1 b) ⟨⟨trivial, trivial, trivial⟩, rfl, rfl, trivial⟩ rfl trivial ?_
 simp -implicitDefEqProofs only [rX,↓reduceIte,resP,tupV,wfV]
def Mks (l : List Sp) : Prop := l.Pairwise fun s t => s.1 < t.1
def posM (l : List Sp) (who : Int) : Nat := (l.filter fun m => decide (m.1 < who)).length
def isM (l : List Sp) (who : Int) : Bool := l.any fun m => m.1 == who
theorem posM_eq : ∀ {l : List Sp} {who : Int} {k : Nat}, Mks l → k ≤ l.length → (∀ j (h : j < l.length), j < k → l[j].1 < who) → (∀ j (h : j < l.length), k ≤ j → who ≤ l[j].1) → posM l who = k := by
 intro l who k _ hk h1 h2
 unfold posM
 conv => lhs; rw [← List.take_append_drop k l]
 rw [vS, vK.2, vF.2, List.append_nil, vA]
 ·omega
 ·intro m hm
  obtain ⟨j, hj, rfl⟩ := yN hm
  rw [List.length_drop] at hj
  have := h2 (k + j) (by omega) (by omega)
  simp only [List.getElem_drop, decide_eq_true_eq]
  omega
 ·intro m hm
  obtain ⟨j, hj, rfl⟩ := yN hm
  rw [vA] at hj
  have := h1 j (by omega) (by omega)
  simpa [List.getElem_take] using this
theorem isM_eq {l : List Sp} {who : Int} {k : Nat} (hm : Mks l) (h1 : ∀ j (h : j < l.length), j < k → l[j].1 < who) (h2 : ∀ j (h : j < l.length), k ≤ j → who ≤ l[j].1) : isM l who = if h : k < l.length then l[k].1 == who else false := by
 have hp := vE.1 hm
 rw [vJ]
 unfold isM
 rw [vL]
 constructor
 ·rintro ⟨m, hmem, he⟩
  obtain ⟨j, hj, rfl⟩ := yN hmem
  have he' : l[j].1 = who := by simpa using he
  rcases Nat.lt_trichotomy j k with c | c | c
  ·have := h1 j hj c; omega
  ·subst c; rw [dif_pos hj]; simpa using he'
  ·have := h2 k (by omega) (vB _)
   have := hp k j (by omega) hj c
   omega
 ·intro h
  split at h
  ·rename_i hk
   exact ⟨_, yH hk, h⟩
  ·cases h
theorem sh_r {k : IntKind} {a c : Int} {K : V → Prop} : shiftInt .shr k a c K = (0 ≤ c ∧ K (.v (.int k (a.fdiv (2 ^ (min c.toNat k.bits)))))) := rfl
theorem ok78 (l : List Sp) (who : Int) (hm : Mks l) (hl : l.length ≤ 1000000) : Ok 78 [.bro 2 (l.map enS), .i who, .clo 79 []] (Is (.tup [.i (posM l who), .b (isM l who)])) := by
 refine ok_of lw78 (by simp) ?_
 unfold c78
 simp -implicitDefEqProofs only [rX,↓rY,ofConst,↓reduceIte,Nat.reduceEqDiff,Nat.reduceAdd,reduceCtorEq,cxN,args0]
 intro hmx
 have hp := vE.1 hm
 refine loopP_intro (fun g : Nat × Nat => ⟨[(10, .i g.2), (9, .i g.1), (8, .i l.length), (2, .clo 79 []), (1, .i who), (0, .bro 2 (l.map enS))], [], 0⟩) (fun g => (g.1 ≤ g.2 ∧ g.2 ≤ l.length) ∧ (∀ j (h : j < l.length), j < g.1 → l[j].1 < who) ∧ (∀ j (h : j < l.length), g.2 ≤ j → who ≤ l[j].1)) (fun g => g.2 - g.1) (0, l.length) ⟨⟨by simp, by simp⟩, fun j h h2 => absurd h2 (vT _), fun j h h2 => absurd h (by simp only at h2; omega)⟩ ?_ ?_
 ·simp -implicitDefEqProofs only [rX,↓reduceIte,Nat.reduceEqDiff,reduceCtorEq,leE,leH,keepP,wfE,wfB,wfV,wfL,yF]
 rintro ⟨i, j⟩ ⟨⟨hij, hj⟩, h1, h2⟩
 simp only at hij hj h1 h2
 unfold c78l0
 rcases yI i j with c | c
 ·have hd : decide ((i : Int) < (j : Int)) = true := decide_eq_true (by omega)
  have hw : IntKind.wrap .u64 ((i : Int) + (j : Int)) = ((i + j : Nat) : Int) := by rw [wrap_in .u64 _ (by simp only [lo, Fx.hi]; omega)]; omega
  have hdv : ((i + j : Nat) : Int).fdiv (2 ^ (min (yW 1) IntKind.u64.bits)) = (((i + j) / 2 : Nat) : Int) := by
   rw [show min (yW 1) IntKind.u64.bits = 1 from rfl]
   rw [Int.fdiv_eq_ediv_of_nonneg _ (by decide)]
   omega
  have hw2 : IntKind.wrap .i64 (((i + j) / 2 : Nat) : Int) = (((i + j) / 2 : Nat) : Int) := wrap_in .i64 _ (by simp only [lo, Fx.hi]; omega)
  have hk : (i + j) / 2 < l.length := by omega
  simp -implicitDefEqProofs only [rX,↓rY,ofConst,↓reduceIte,Nat.reduceEqDiff,reduceCtorEq,enS_len,enS_take,hd,hw,hdv,hw2,↓sh_r]
  refine ⟨by simp only [lo, hi]; omega, by omega, ⟨by omega, by omega⟩, hk, ?_⟩
  refine call_is (ok79 l[(i + j) / 2] who) ⟨⟨⟨trivial, trivial, trivial⟩, trivial, trivial⟩, ⟨rfl, rfl, trivial⟩, rfl, trivial⟩ rfl trivial ?_
  cases h3 : decide (l[(i + j) / 2].1 < who) with
  | true =>
   have h3' : l[(i + j) / 2].1 < who := by simpa using h3
   have h4 : decide (cmpI l[(i + j) / 2].1 who < 0) = true := by unfold cmpI; rw [if_pos h3']; rfl
   simp -implicitDefEqProofs only [rX,↓rY,ofConst,↓reduceIte,Nat.reduceEqDiff,reduceCtorEq,leE,leH,keepP,wfE,wfB,wfV,wfL,h4]
   refine ⟨by simp only [lo, hi]; omega, ((i + j) / 2 + 1, j), ⟨⟨⟨by simp only; omega, hj⟩, fun k hk2 hlt => ?_, h2⟩, by simp only; omega⟩, by simp⟩
   simp only at hlt
   by_cases e : k = (i + j) / 2
   ·subst e; exact h3'
   ·have := hp k ((i + j) / 2) hk2 hk (by omega); omega
  | false =>
   have h3' : ¬ l[(i + j) / 2].1 < who := by simpa using h3
   have h4 : decide (cmpI l[(i + j) / 2].1 who < 0) = false := by unfold cmpI; rw [if_neg h3']; split <;> rfl
   simp -implicitDefEqProofs only [rX,↓rY,ofConst,↓reduceIte,Nat.reduceEqDiff,reduceCtorEq,leE,leH,keepP,wfE,wfB,wfV,wfL,h4]
   refine ⟨(i, (i + j) / 2), ⟨⟨⟨by simp only; omega, by simp only; omega⟩, h1, fun k hk2 hlt => ?_⟩, by simp only; omega⟩, by simp⟩
   simp only at hlt
   by_cases e : k = (i + j) / 2
   ·subst e; omega
   ·have := hp ((i + j) / 2) k hk hk2 (by omega); omega
 ·have hd : decide ((i : Int) < (j : Int)) = false := decide_eq_false (by omega)
  have he : i = j := by omega
  subst he
  have hpos := posM_eq hm hj h1 h2
  have his := isM_eq hm h1 h2
  rcases yI i l.length with c2 | c2
  ·have hd2 : decide ((i : Int) < (l.length : Int)) = true := decide_eq_true (by omega)
   simp -implicitDefEqProofs only [rX,↓rY,↓reduceIte,Nat.reduceEqDiff,reduceCtorEq,enS_len,enS_take,hd,hd2]
   refine ⟨⟨by omega, by omega⟩, c2, ?_⟩
   refine call_is (ok79 l[i] who) ⟨⟨⟨trivial, trivial, trivial⟩, trivial, trivial⟩, ⟨rfl, rfl, trivial⟩, rfl, trivial⟩ rfl trivial ?_
   have h4 : (cmpI l[i].1 who == 0) = isM l who := by
    rw [his, dif_pos c2]
    have := h2 i c2 (vB _)
    unfold cmpI
    rw [if_neg (by omega)]
    rw [vJ]
    split
    ·simp; omega
    ·simp; omega
   simp -implicitDefEqProofs only [rX,↓rY,ofConst,↓reduceIte,Nat.reduceEqDiff,resP,tupV,wfV,wfL,h4,hpos]
  ·have hd2 : decide ((i : Int) < (l.length : Int)) = false := decide_eq_false (by omega)
   rw [dif_neg (by omega)] at his
   simp -implicitDefEqProofs only [rX,↓rY,ofConst,↓reduceIte,Nat.reduceEqDiff,resP,tupV,wfV,wfL,hd,hd2,hpos,his]
theorem ok62 (l : List Sp) (who : Int) (hm : Mks l) (hl : l.length ≤ 1000000) : Ok 62 [.bro 2 (l.map enS), .i who] (Is (.tup [.i (posM l who), .b (isM l who)])) := by
 refine ok_of lw62 (by simp) ?_
 unfold c62
 simp -implicitDefEqProofs only [rX,ofConst,↓reduceIte,Nat.reduceEqDiff,reduceCtorEq,cxN,args0]
 refine call_is (ok78 l who hm hl) ⟨⟨trivial, trivial, trivial, trivial⟩, ⟨rfl, rfl⟩, rfl, ⟨rfl, trivial⟩, trivial⟩ rfl trivial ?_
 simp -implicitDefEqProofs only [rX,↓rY,↓reduceIte,Nat.reduceEqDiff,resP,tupV,wfV,wfL]
end Go.Fx.O
namespace Go.Fx.O
open Go Go.Fx Go.Proofs Go.Fx.R
set_option maxRecDepth 20000
def markOf (l : List Sp) (who : Int) : Int := match l.find? fun m => m.1 == who with
 | some m => m.2
 | none => 0
theorem mks_cons {m : Sp} {l : List Sp} : Mks (m :: l) ↔ (∀ t ∈ l, m.1 < t.1) ∧ Mks l := List.pairwise_cons
theorem markOf_no {l : List Sp} {who : Int} (h : isM l who = false) : markOf l who = 0 := by
 unfold markOf
 have : l.find? (fun m => m.1 == who) = none := by
  rw [List.find?_eq_none]
  intro m hm
  unfold isM at h
  rw [vZ] at h
  exact h m hm
 rw [this]
theorem posM_at : ∀ {l : List Sp} {who : Int}, Mks l → isM l who = true → ∃ h : posM l who < l.length, l[posM l who].1 = who ∧ markOf l who = l[posM l who].2
 | [], who, _, h => by simp [isM] at h
 | m :: l, who, hm, h => by
  obtain ⟨h1, h2⟩ := mks_cons.1 hm
  rcases uA m.1 who with c | c | c
  ·have hi : isM l who = true := by
    unfold isM at h ⊢
    rw [List.any_cons] at h
    have : (m.1 == who) = false := by rw [beq_eq_false_iff_ne]; omega
    rw [this, Bool.false_or] at h
    exact h
   obtain ⟨q1, q2, q3⟩ := posM_at h2 hi
   have hp : posM (m :: l) who = posM l who + 1 := by
    unfold posM
    rw [vM (by simpa using c)]
    rfl
   have hf : markOf (m :: l) who = markOf l who := by
    unfold markOf
    rw [vG (by simp; omega)]
   refine ⟨by rw [hp, vN]; omega, ?_, ?_⟩
   ·simp only [hp, vU]; exact q2
   ·simp only [hp, vU]; rw [hf]; exact q3
  ·have hp : posM (m :: l) who = 0 := by
    unfold posM
    rw [vQ, vF]
    intro t ht
    rcases yO.1 ht with rfl | ht
    ·simp; omega
    ·have := h1 t ht; simp; omega
   have hf : markOf (m :: l) who = m.2 := by
    unfold markOf
    rw [vV (by simp [c])]
   refine ⟨by rw [hp]; simp, ?_, ?_⟩
   ·simp only [hp, vW]; exact c
   ·simp only [hp, vW]; exact hf
  ·unfold isM at h
   rw [vL] at h
   obtain ⟨t, ht, he⟩ := h
   have he' : t.1 = who := by simpa using he
   rcases yO.1 ht with rfl | ht
   ·omega
   ·have := h1 t ht; omega
theorem ok40 (l : List Sp) (who : Int) (hm : Mks l) (hl : l.length ≤ 1000000) : Ok 40 [spans l, .i who] (Is (.i (markOf l who))) := by
 refine ok_of lw40 (by simp) ?_
 unfold c40
 simp -implicitDefEqProofs only [rX,ofConst,↓reduceIte,Nat.reduceEqDiff,reduceCtorEq,cxN,args0]
 refine call_is (ok62 l who hm hl) ⟨⟨trivial, trivial, trivial⟩, ⟨rfl, rfl⟩, rfl, trivial⟩ rfl trivial ?_
 cases h : isM l who with
 | true =>
  obtain ⟨h1, h2, h3⟩ := posM_at hm h
  simp -implicitDefEqProofs only [rX,↓rY,↓reduceIte,Nat.reduceEqDiff,reduceCtorEq,resP,tupV,wfV,enS_1]
  exact ⟨⟨by omega, by omega⟩, h1, h3.symm⟩
 | false =>
  simp -implicitDefEqProofs only [rX,↓rY,ofConst,↓reduceIte,Nat.reduceEqDiff,resP,tupV,wfV]
  rw [markOf_no h]
theorem markOf_first {l : List Sp} {who : Int} {k : Nat} (hk : k < l.length) (h : ∀ j (h : j < l.length), j < k → l[j].1 ≠ who) (he : l[k].1 = who) : markOf l who = l[k].2 := by
 unfold markOf
 have : l.find? (fun m => m.1 == who) = some l[k] := by
  rw [List.find?_eq_some_iff_getElem]
  exact ⟨by simpa using he, k, hk, rfl, fun j hj => by have := h j (by omega) hj; simpa using this⟩
 rw [this]
theorem ok36 (l : List Sp) (who : Int) : Ok 36 [spans l, .i who] (Is (.i (markOf l who))) := by
 refine ok_of lw36 (by simp) ?_
 unfold c36
 simp -implicitDefEqProofs only [rX,ofConst,cxN,args0]
 refine loopP_intro (fun k : Nat => ⟨[(5, .i k), (1, .i who), (0, spans l)], [], 0⟩) (fun k => k ≤ l.length ∧ ∀ j (h : j < l.length), j < k → l[j].1 ≠ who) (fun k => l.length - k) 0 ⟨by omega, fun j h h2 => absurd h2 (vT _)⟩ ?_ ?_
 ·simp -implicitDefEqProofs only [rX,↓reduceIte,Nat.reduceEqDiff,reduceCtorEq,leE,leH,keepP,wfE,wfB,wfV,yF]
 rintro k ⟨hk, hv⟩
 unfold c36l0
 simp -implicitDefEqProofs only [rX,↓rY,ofConst,↓reduceIte,Nat.reduceEqDiff,reduceCtorEq,resP,tupV,leE,leH,keepP,wfE,wfB,wfV,enS_0,enS_1]
 intro hm
 simp only [br, decide_eq_true_eq, decide_eq_false_iff_not]
 refine ⟨fun h => ?_, fun h => ?_⟩
 ·have hk' : k < l.length := by omega
  refine ⟨⟨by omega, h⟩, hk', fun h2 => ⟨⟨by omega, h⟩, hk', (markOf_first hk' hv (by simpa using h2)).symm⟩, fun h2 => ⟨by simp only [lo, hi, maxLen] at *; omega, k + 1, ⟨⟨by omega, fun j hj hlt => ?_⟩, by omega⟩, by simp⟩⟩
  by_cases e : j = k
  ·subst e; simpa using h2
  ·exact hv j hj (by omega)
 ·refine (markOf_no ?_).symm
  unfold isM
  rw [vZ]
  intro m hm
  obtain ⟨j, hj, rfl⟩ := yN hm
  have := hv j hj (by omega)
  simpa using this
def badM (l : List Sp) (me : Int) (k : Nat) (h : k < l.length) : Bool := ((!partyB l[k].1 || l[k].1 == me) || !countsB l[k].2) || (decide (0 < k) && decide (l[k].1 ≤ (l[k - 1]'(by omega)).1))
def MkOk (l : List Sp) (me : Int) : Prop := ∀ k (h : k < l.length), badM l me k h = false
instance {l : List Sp} {me : Int} : Decidable (MkOk l me) := inferInstanceAs (Decidable (∀ k (h : k < l.length), badM l me k h = false))
def mkB (l : List Sp) (me : Int) : Bool := decide (MkOk l me)
theorem MkOk.at {l : List Sp} {me : Int} (h : MkOk l me) {k : Nat} (hk : k < l.length) : ((0 ≤ l[k].1 ∧ l[k].1 < 128) ∧ l[k].1 ≠ me ∧ 1 ≤ l[k].2 ∧ l[k].2 ≤ 1099511627776) ∧ (0 < k → (l[k - 1]'(by omega)).1 < l[k].1) := by
 have := h k hk
 unfold badM partyB countsB at this
 simp at this
 omega
theorem MkOk.mks {l : List Sp} {me : Int} (h : MkOk l me) : Mks l := by
 unfold Mks
 rw [vE]
 intro i j hi hj hij
 have key : ∀ d, ∀ (hd : i + 1 + d < l.length), l[i].1 < l[i + 1 + d].1 := by
  intro d
  induction d with
  | zero =>
   intro hd
   have := (h.at (show i + 1 < l.length by omega)).2 (by omega)
   simpa using this
  | succ d ih =>
   intro hd
   have h1 := ih (by omega)
   have h2 := (h.at (show i + 1 + (d + 1) < l.length by omega)).2 (by omega)
   simp only [show i + 1 + (d + 1) - 1 = i + 1 + d by omega] at h2
   omega
 have := key (j - i - 1) (by omega)
 simpa [show i + 1 + (j - i - 1) = j by omega] using this
theorem ok35 (l : List Sp) (me : Int) : Ok 35 [spans l, .i me] (Is (.b (mkB l me))) := by
 refine ok_of lw35 (by simp) ?_
 unfold c35
 simp -implicitDefEqProofs only [rX,ofConst,cxN,args0]
 refine loopP_intro (fun k : Nat => ⟨[(5, .i k), (1, .i me), (0, spans l)], [], 0⟩) (fun k => k ≤ l.length ∧ ∀ j (h : j < l.length), j < k → badM l me j h = false) (fun k => l.length - k) 0 ⟨by omega, fun j h h2 => absurd h2 (vT _)⟩ ?_ ?_
 ·simp -implicitDefEqProofs only [rX,↓reduceIte,Nat.reduceEqDiff,reduceCtorEq,leE,leH,keepP,wfE,wfB,wfV,yF]
 rintro k ⟨hk, hv⟩
 have hbad : ∀ hk' : k < l.length, badM l me k hk' = true → false = mkB l me := fun hk' hb => by
  unfold mkB
  rw [eq_comm, decide_eq_false_iff_not]
  intro h
  rw [h k hk'] at hb; cases hb
 have hgo : l.length ≤ maxLen → ∀ hk' : k < l.length, badM l me k hk' = false → ((lo IntKind.i64 ≤ (k : Int) + 1 ∧ (k : Int) + 1 ≤ hi IntKind.i64) ∧ ∃ g', ((g' ≤ l.length ∧ ∀ j (h : j < l.length), j < g' → badM l me j h = false) ∧ l.length - g' < l.length - k) ∧ (k : Int) + 1 = (g' : Int)) := fun hm hk' hb =>
  ⟨by simp only [lo, hi, maxLen] at *; omega, k + 1, ⟨⟨by omega, fun j hj hlt => by
   by_cases e : j = k
   ·subst e; exact hb
   ·exact hv j hj (by omega)⟩, by omega⟩, by simp⟩
 unfold c35l0
 rcases yI k l.length with hk' | hk'
 ·have hd : decide ((k : Int) < (l.length : Int)) = true := decide_eq_true (by omega)
  have hkk : (0 : Int) ≤ k ∧ (k : Int) < l.length := ⟨by omega, by omega⟩
  simp -implicitDefEqProofs only [rX,↓rY,rdK,↓reduceIte,Nat.reduceEqDiff,reduceCtorEq,enS_0,hd]
  refine fun hmx => ⟨hkk, hk', ?_⟩
  have hgo := hgo hmx
  refine call_is (ok33 l[k].1) ⟨⟨trivial, trivial⟩, rfl, trivial⟩ rfl trivial ?_
  cases h1 : partyB l[k].1 with
  | false => simp -implicitDefEqProofs only [rX,↓rY,rdK,ofConst,↓reduceIte,Nat.reduceEqDiff,resP,tupV,wfV]; exact hbad hk' (by simp [badM, h1])
  | true =>
   cases h2 : l[k].1 == me with
   | true => simp -implicitDefEqProofs only [rX,↓rY,rdK,ofConst,↓reduceIte,Nat.reduceEqDiff,reduceCtorEq,resP,tupV,wfV,enS_0,h2]; exact ⟨hkk, hk', hbad hk' (by simp [badM, h2])⟩
   | false =>
    simp -implicitDefEqProofs only [rX,↓rY,rdK,↓reduceIte,Nat.reduceEqDiff,reduceCtorEq,enS_0,enS_1,h2]
    refine ⟨hkk, hk', hkk, hk', ?_⟩
    refine call_is (ok53 l[k].2) ⟨⟨trivial, trivial⟩, rfl, trivial⟩ rfl trivial ?_
    cases h3 : countsB l[k].2 with
    | false => simp -implicitDefEqProofs only [rX,↓rY,rdK,ofConst,↓reduceIte,Nat.reduceEqDiff,resP,tupV,wfV]; exact hbad hk' (by simp [badM, h3])
    | true =>
     cases h4 : decide (0 < k) with
     | false =>
      have h4' : decide ((0 : Int) < (k : Int)) = false := by simpa using h4
      simp -implicitDefEqProofs only [rX,↓rY,rdK,ofConst,↓reduceIte,Nat.reduceEqDiff,reduceCtorEq,resP,tupV,leE,leH,keepP,wfE,wfB,wfV,enS_0,h4']
      exact hgo hk' (by simp [badM, h1, h2, h3, h4])
     | true =>
      have h4' : decide ((0 : Int) < (k : Int)) = true := by simpa using h4
      have h5 : 0 < k := by simpa using h4
      have hto : ((k : Int) - 1).toNat = k - 1 := by omega
      simp -implicitDefEqProofs only [rX,↓rY,rdK,ofConst,↓reduceIte,Nat.reduceEqDiff,reduceCtorEq,resP,tupV,leE,leH,keepP,wfE,wfB,wfV,enS_0,h4',hto]
      refine ⟨hkk, hk', by simp only [lo, hi, maxLen] at *; omega, by omega, by omega, ?_⟩
      cases h6 : decide (l[k].1 ≤ (l[k - 1]'(by omega)).1) with
      | true => simp -implicitDefEqProofs only [↓rY]; exact hbad hk' (by simp [badM, h4, h6])
      | false => simp -implicitDefEqProofs only [↓rY]; exact hgo hk' (by simp [badM, h1, h2, h3, h6])
 ·have hd : decide ((k : Int) < (l.length : Int)) = false := decide_eq_false (by omega)
  simp -implicitDefEqProofs only [rX,↓rY,ofConst,↓reduceIte,Nat.reduceEqDiff,reduceCtorEq,resP,tupV,wfV,hd]
  intro _
  unfold mkB
  rw [eq_comm, decide_eq_true_eq]
  exact fun j hj => hv j hj (by omega)
end Go.Fx.O
namespace Go.Fx.R
def takeS : List Sp → Int → List Sp
 | [], _ => []
 | s :: l, n => if n ≤ 0 then [] else (s.1, s.1 + min (s.2 - s.1) n) :: takeS l (n - min (s.2 - s.1) n)
theorem takeS_zero {l : List Sp} {n : Int} (h : n ≤ 0) : takeS l n = [] := by
 cases l with
 | nil => rfl
 | cons s l => exact if_pos h
def pfS : List Sp → Int → List Sp
 | [], _ => []
 | s :: l, n => (s.1, s.1 + min n (s.2 - s.1)) :: pfS l (n - min n (s.2 - s.1))
def prS : List Sp → Int → List Sp
 | [], _ => []
 | s :: l, n => (s.1 + min n (s.2 - s.1), s.2) :: prS l (n - min n (s.2 - s.1))
theorem pfS_in {x : Int} : ∀ {l : List Sp} {n : Int}, Sep l → 0 ≤ n → (inS (pfS l n) x ↔ inS (takeS l n) x)
 | [], n, _, _ => by simp [pfS, takeS]
 | s :: l, n, h, hn => by
  obtain ⟨h1, h2, h3⟩ := sep_cons.1 h
  have ih := pfS_in (x := x) (l := l) (n := n - min n (s.2 - s.1)) h3 (by omega)
  unfold pfS takeS
  by_cases c : n ≤ 0
  ·have h0 : n = 0 := by omega
   subst h0
   rw [if_pos (by omega), inS_cons, ih, takeS_zero (by omega), inS_nil]
   constructor
   ·rintro (h | h)
    ·simp only at h; omega
    ·exact h
   ·exact fun h => h.elim
  ·rw [if_neg c, inS_cons, inS_cons, ih, Int.min_comm]
theorem takeS_sub : ∀ {l : List Sp} {n : Int} {t : Sp}, t ∈ takeS l n → ∃ s ∈ l, s.1 = t.1 ∧ t.2 ≤ s.2
 | [], _, t, h => by simp [takeS] at h
 | s :: l, n, t, h => by
  unfold takeS at h
  split at h
  ·simp at h
  ·rcases yO.1 h with rfl | h
   ·exact ⟨s, by simp, rfl, by simp only; omega⟩
   ·obtain ⟨u, hu, h1⟩ := takeS_sub h
    exact ⟨u, by simp [hu], h1⟩
theorem sep_takeS : ∀ {l : List Sp} {n : Int}, Sep l → Sep (takeS l n)
 | [], _, _ => sep_nil
 | s :: l, n, h => by
  obtain ⟨h1, h2, h3⟩ := sep_cons.1 h
  unfold takeS
  split
  ·exact sep_nil
  ·refine sep_cons.2 ⟨by simp only; omega, fun t ht => ?_, sep_takeS h3⟩
   obtain ⟨u, hu, h4, _⟩ := takeS_sub ht
   have := h2 u hu
   simp only
   omega
theorem takeS_in {x : Int} : ∀ {l : List Sp} {n : Int}, inS (takeS l n) x → inS l x
 | l, n, ⟨t, ht, h1, h2⟩ => by
  obtain ⟨s, hs, h3, h4⟩ := takeS_sub ht
  exact ⟨s, hs, by omega, by omega⟩
theorem prS_in {x : Int} : ∀ {l : List Sp} {n : Int}, Sep l → 0 ≤ n → (inS (prS l n) x ↔ inS l x ∧ ¬ inS (takeS l n) x)
 | [], n, _, _ => by simp [prS, inS_nil]
 | s :: l, n, h, hn => by
  obtain ⟨h1, h2, h3⟩ := sep_cons.1 h
  have ih := prS_in (x := x) (l := l) (n := n - min n (s.2 - s.1)) h3 (by omega)
  have hgt : inS l x → s.2 < x := fun hx => inS_gt h2 hx
  have hgt2 : ∀ m, inS (takeS l m) x → s.2 < x := fun m hx => hgt (takeS_in hx)
  unfold prS takeS
  by_cases c : n ≤ 0
  ·have h0 : n = 0 := by omega
   subst h0
   rw [if_pos (by omega), inS_cons, ih, takeS_zero (by omega), inS_nil, inS_cons]
   have e : s.1 + min 0 (s.2 - s.1) = s.1 := by omega
   simp only [e, not_false_eq_true, and_true]
  ·rw [if_neg c, inS_cons, ih, inS_cons, inS_cons, Int.min_comm (s.2 - s.1) n]
   simp only
   constructor
   ·rintro (h | ⟨h4, h5⟩)
    ·refine ⟨.inl ⟨by omega, h.2⟩, ?_⟩
     rintro (h6 | h6)
     ·omega
     ·have := hgt2 _ h6; omega
    ·refine ⟨.inr h4, ?_⟩
     rintro (h6 | h6)
     ·have := hgt h4; omega
     ·exact h5 h6
   ·rintro ⟨h4 | h4, h5⟩
    ·left
     rw [not_or] at h5
     omega
    ·right
     rw [not_or] at h5
     exact ⟨h4, h5.2⟩
theorem of_pfS {l : List Sp} {n : Int} (h : Sep l) (hn : 0 ≤ n) : ofS (pfS l n) = takeS l n := Sep.ext sep_ofS (sep_takeS h) fun x => by rw [in_ofS, pfS_in h hn]
theorem of_prS {l : List Sp} {n : Int} (h : Sep l) (hn : 0 ≤ n) : ofS (prS l n) = minusS l (takeS l n) := Sep.ext sep_ofS (sep_minusS h) fun x => by rw [in_ofS, prS_in h hn, in_minusS]
end Go.Fx.R
namespace Go.Fx.O
open Go Go.Fx Go.Proofs Go.Fx.R
set_option maxRecDepth 20000
def lstN : List Sp → Int → Int
 | [], n => n
 | s :: l, n => lstN l (n - min n (s.2 - s.1))
theorem lst_app : ∀ {l m : List Sp} {n : Int}, lstN (l ++ m) n = lstN m (lstN l n) ∧ pfS (l ++ m) n = pfS l n ++ pfS m (lstN l n) ∧ prS (l ++ m) n = prS l n ++ prS m (lstN l n)
 | [], m, n => ⟨rfl, rfl, rfl⟩
 | s :: l, m, n => by
  obtain ⟨h1, h2, h3⟩ := lst_app (l := l) (m := m) (n := n - min n (s.2 - s.1))
  exact ⟨h1, by simp only [List.cons_append, pfS, lstN, h2], by simp only [List.cons_append, prS, lstN, h3]⟩
theorem lstN_b : ∀ {l : List Sp} {n : Int}, Sep l → 0 ≤ n → 0 ≤ lstN l n ∧ lstN l n ≤ n
 | [], n, _, h => ⟨h, yE _⟩
 | s :: l, n, hs, h => by
  obtain ⟨h1, h2, h3⟩ := sep_cons.1 hs
  have := lstN_b (l := l) (n := n - min n (s.2 - s.1)) h3 (by omega)
  simp only [lstN]
  omega
theorem lst_step {l : List Sp} {n : Int} {k : Nat} (h : k < l.length) : lstN (l.take (k + 1)) n = lstN (l.take k) n - min (lstN (l.take k) n) (l[k].2 - l[k].1) ∧
  pfS (l.take (k + 1)) n = pfS (l.take k) n ++ [(l[k].1, l[k].1 + min (lstN (l.take k) n) (l[k].2 - l[k].1))] ∧ prS (l.take (k + 1)) n = prS (l.take k) n ++ [(l[k].1 + min (lstN (l.take k) n) (l[k].2 - l[k].1), l[k].2)] := by
 rw [yT, yU h]
 exact lst_app (l := l.take k) (m := [l[k]]) (n := n)
theorem ofS_snoc {l : List Sp} {s : Sp} : ofS (l ++ [s]) = addS (ofS l) s := ofS_app
theorem pf_bd : ∀ {l : List Sp} {n : Int}, Bd l → Sep l → 0 ≤ n → Bd (pfS l n) ∧ Bd (prS l n)
 | [], n, _, _, _ => ⟨by simp [pfS, Bd], by simp [prS, Bd]⟩
 | s :: l, n, h, hs, hn => by
  obtain ⟨h1, h2, h3⟩ := sep_cons.1 hs
  have hsb := h s (by simp)
  obtain ⟨q1, q2⟩ := pf_bd (l := l) (n := n - min n (s.2 - s.1)) (fun t ht => h t (by simp [ht])) h3 (by omega)
  constructor
  ·intro t ht
   simp only [pfS] at ht
   rcases yO.1 ht with rfl | ht
   ·simp only; omega
   ·exact q1 t ht
  ·intro t ht
   simp only [prS] at ht
   rcases yO.1 ht with rfl | ht
   ·simp only; omega
   ·exact q2 t ht
theorem mid_snoc {l : List Sp} {s : Sp} (h : Bd l) (hs : (0 ≤ s.1 ∧ s.1 ≤ 1099511627776)) : Mid (l ++ [s]) := fun t ht => by
 rcases yY.1 ht with ht | ht
 ·have := h t ht; omega
 ·rw [yZ] at ht; subst ht; omega
theorem ok38 (l : List Sp) (n : Int) (hl : Vd l) (hn : 0 ≤ n ∧ n ≤ 1099511627776) : Ok 38 [spans l, .i n] (Is (.tup [spans (takeS l n), spans (minusS l (takeS l n))])) := by
 rw [← of_prS hl.1 hn.1, ← of_pfS hl.1 hn.1]
 refine ok_of lw38 (by simp) ?_
 unfold c38
 simp -implicitDefEqProofs only [rX,↓rY,ofConst,↓reduceIte,reduceCtorEq,cxN,args0]
 intro hm
 refine loopP_ghost (.virt 2 2 (by decide) (.nilE 4 0 rfl (.nilE 5 1 rfl (.give (fun k => decide (k < 2)) (by simp) (.refl _))))) (fun k : Nat => ⟨[(11, .i k), (10, .i l.length), (9, .ro 2 (l.map enS)), (5, spans (ofS (prS (l.take k) n))), (4, spans (ofS (pfS (l.take k) n))), (1, .i (lstN (l.take k) n))], [], 0⟩) (fun k => k ≤ l.length) (fun k => l.length - k) 0 (by omega) ?_ ?_
 ·simp -implicitDefEqProofs only [rX,↓reduceIte,Nat.reduceEqDiff,reduceCtorEq,leE,leH,keepP,wfE,wfB,wfV,Nat.reduceLT,yF,yP,St.give,gvE,gvV,gvH,gvB]
  exact ⟨rfl, rfl, rfl⟩
 rintro k hk
 have htk := hl.take k
 have hb := lstN_b htk.1 hn.1
 obtain ⟨q1, q2⟩ := pf_bd htk.2 htk.1 hn.1
 have v1 := Vd.of q1
 have v2 := Vd.of q2
 have w1 := v1.len
 have w2 := v2.len
 unfold c38l0
 rcases yI k l.length with hk' | hk'
 ·have hd : decide ((k : Int) < (l.length : Int)) = true := decide_eq_true (by omega)
  have hlb := hl.2 _ (yH hk')
  have hls := hl.1.1 _ (yH hk')
  obtain ⟨e1, e2, e3⟩ := lst_step (n := n) hk'
  simp -implicitDefEqProofs only [rX,↓rY,ofConst,cells?,splice,↓reduceIte,Nat.reduceEqDiff,Nat.reduceAdd,freshP,buildP,Nat.reduceLeDiff,enS_len,enS_take,enS_0,enS_1,enS_C,hd]
  refine ⟨⟨by omega, by omega⟩, hk', by simp only [lo, hi]; omega, by simp only [lo, hi]; omega, by simp only [lo, hi]; omega, ?_⟩
  refine call_is (ok65 (ofS (pfS (l.take k) n)) (l[k].1, l[k].1 + min (lstN (l.take k) n) (l[k].2 - l[k].1)) (by omega) v1.1 (mid_snoc v1.2 hlb.1)) ⟨⟨trivial, ⟨trivial, trivial, trivial⟩, trivial⟩, ⟨rfl, rfl⟩, ⟨rfl, rfl, trivial⟩, trivial⟩ rfl trivial ?_
  simp -implicitDefEqProofs only [rX,↓rY,cells?,splice,↓reduceIte,Nat.reduceEqDiff,Nat.reduceAdd,buildP,Nat.reduceLeDiff,enS_0,enS_1]
  refine ⟨by simp only [lo, hi]; omega, ?_⟩
  refine call_is (ok65 (ofS (prS (l.take k) n)) (l[k].1 + min (lstN (l.take k) n) (l[k].2 - l[k].1), l[k].2) (by omega) v2.1 (mid_snoc v2.2 (by simp only; omega))) ⟨⟨trivial, ⟨trivial, trivial, trivial⟩, trivial⟩, ⟨rfl, rfl⟩, ⟨rfl, rfl, trivial⟩, trivial⟩ rfl trivial ?_
  simp -implicitDefEqProofs only [rX,↓rY,ofConst,↓reduceIte,Nat.reduceEqDiff,leE,leH,keepP,wfE,wfB,wfV]
  refine ⟨by simp only [lo, hi, maxLen] at *; omega, k + 1, ⟨by omega, by omega⟩, ?_⟩
  rw [e1, e2, e3, ofS_snoc, ofS_snoc]
  simp
 ·have hd : decide ((k : Int) < (l.length : Int)) = false := decide_eq_false (by omega)
  rw [yD hk']
  simp -implicitDefEqProofs only [rX,↓rY,↓reduceIte,Nat.reduceEqDiff,resP,tupV,wfV,wfL,hd]
end Go.Fx.O
namespace Go.Fx.O
open Go Go.Fx Go.Proofs Go.Fx.R
set_option maxRecDepth 20000
structure Dig where
 a0 : Int
 a1 : Int
 a2 : Int
 a3 : Int
 a4 : Int
 a5 : Int
 a6 : Int
 a7 : Int
 a8 : Int
 a9 : Int
 a10 : Int
 a11 : Int
 a12 : Int
 a13 : Int
 a14 : Int
 a15 : Int
 deriving DecidableEq, Inhabited
abbrev u8 (x : Int) : V := .v (.int .u8 x)
abbrev Dig.enc (d : Dig) : List V := [u8 d.a0, u8 d.a1, u8 d.a2, u8 d.a3, u8 d.a4, u8 d.a5, u8 d.a6, u8 d.a7, u8 d.a8, u8 d.a9, u8 d.a10, u8 d.a11, u8 d.a12, u8 d.a13, u8 d.a14, u8 d.a15]
structure Gift where
 to : Int
 serial : Int
 uses : List Sp
 deriving DecidableEq, Inhabited
def Gift.enc (g : Gift) : List V := [.i g.to, .i g.serial, spans g.uses]
abbrev gifts (l : List Gift) : V := .ro 3 (l.map Gift.enc)
structure Purse where
 id : Dig
 me : Int
 left : List Sp
 spent : List Sp
 sent : List Sp
 heard : List Sp
 out : List Gift
 deriving DecidableEq, Inhabited
abbrev Purse.enc (p : Purse) : List V := [u8 p.id.a0, u8 p.id.a1, u8 p.id.a2, u8 p.id.a3, u8 p.id.a4, u8 p.id.a5, u8 p.id.a6, u8 p.id.a7, u8 p.id.a8, u8 p.id.a9, u8 p.id.a10, u8 p.id.a11, u8 p.id.a12, u8 p.id.a13, u8 p.id.a14, u8 p.id.a15, .i p.me, spans p.left, spans p.spent, spans p.sent, spans p.heard, gifts p.out]
theorem eq_dig {d e : Dig} {K : Bool → Prop} : (optK (aggC (V.agg d.enc)) fun xs => optK (aggC (V.agg e.enc)) fun ys => eqFs xs ys ((List.range' 0 16).map fun i => (i, TypeDesc.int IntKind.u8)) K) = K (d == e) := by
 have hr : (List.range' 0 16).map (fun i => (i, TypeDesc.int IntKind.u8)) = [(0, .int .u8), (1, .int .u8), (2, .int .u8), (3, .int .u8), (4, .int .u8), (5, .int .u8), (6, .int .u8), (7, .int .u8), (8, .int .u8), (9, .int .u8), (10, .int .u8), (11, .int .u8), (12, .int .u8), (13, .int .u8), (14, .int .u8), (15, .int .u8)] := rfl
 rw [hr]
 have e1 : (d.a0 == e.a0 && (d.a1 == e.a1 && (d.a2 == e.a2 && (d.a3 == e.a3 && (d.a4 == e.a4 && (d.a5 == e.a5 && (d.a6 == e.a6 && (d.a7 == e.a7 && (d.a8 == e.a8 && (d.a9 == e.a9 && (d.a10 == e.a10 && (d.a11 == e.a11 && (d.a12 == e.a12 && (d.a13 == e.a13 && (d.a14 == e.a14 && (d.a15 == e.a15 && true)))))))))))))))) = (d == e) := by
  cases d; cases e
  rw [vJ]
  simp
 apply propext
 rw [← e1]
 constructor
 ·exact fun h => h.2.2.2.2.2.2.2.2.2.2.2.2.2.2.2.2
 ·exact fun h => ⟨⟨rfl, rfl⟩, ⟨rfl, rfl⟩, ⟨rfl, rfl⟩, ⟨rfl, rfl⟩, ⟨rfl, rfl⟩, ⟨rfl, rfl⟩, ⟨rfl, rfl⟩, ⟨rfl, rfl⟩, ⟨rfl, rfl⟩, ⟨rfl, rfl⟩, ⟨rfl, rfl⟩, ⟨rfl, rfl⟩, ⟨rfl, rfl⟩, ⟨rfl, rfl⟩, ⟨rfl, rfl⟩, ⟨rfl, rfl⟩, h⟩
end Go.Fx.O
namespace Go.Fx.O
open Go Go.Fx Go.Proofs Go.Fx.R
set_option maxRecDepth 20000
def zeroP : Purse := ⟨⟨0, 0, 0, 0, 0, 0, 0, 0, 0, 0, 0, 0, 0, 0, 0, 0⟩, 0, [], [], [], [], []⟩
def leftN (n : Int) : List Sp := if n ≤ 0 then [] else [(1, 1 + n)]
theorem leftN_of {n : Int} : ofS [(1, 1 + n)] = leftN n := by
 show addS [] (1, 1 + n) = _
 unfold addS leftN
 by_cases h : n ≤ 0
 ·rw [if_pos h, if_pos (by simp only; omega)]
 ·rw [if_neg h, if_neg (by simp only; omega)]; rfl
def newP (id : Dig) (me n : Int) : Purse × Int :=
 if (!partyB me || decide (n < 0)) = true then (zeroP, 1) else if 1073741824 < n then (zeroP, 2) else (⟨id, me, leftN n, [], [], [], []⟩, 0)
theorem ok29 (id : Dig) (me n : Int) (hn : n ≤ 9223372036854775807) : Ok 29 [.agg id.enc, .i me, .i n] (Is (.tup [.agg (newP id me n).1.enc, .i (newP id me n).2])) := by
 refine okN_gv ?_
 refine ok_of lw29 (by simp) ?_
 unfold c29
 simp -implicitDefEqProofs only [rX,↓rY,ofConst,cells?,↓reduceIte,Nat.reduceEqDiff,Nat.reduceAdd,reduceCtorEq,freshP,cxN,zc22,args0]
 refine call_is (ok41 me) ⟨⟨trivial, trivial⟩, rfl, trivial⟩ rfl trivial ?_
 have hp : ∀ (P : Purse) (e : Int), newP id me n = (P, e) → (newP id me n).1 = P ∧ (newP id me n).2 = e := fun P e h => by rw [h]; exact ⟨rfl, rfl⟩
 cases h1 : partyB me with
 | false =>
  obtain ⟨e1, e2⟩ := hp zeroP 1 (by simp [newP, h1])
  rw [e1, e2]
  simp -implicitDefEqProofs only [rX,↓rY,ofConst,cells?,splice,↓reduceIte,Nat.reduceEqDiff,Nat.reduceAdd,buildP,isC]
  refine ret_data ?_
  simp -implicitDefEqProofs only [rX,↓rY,↓reduceIte,Nat.reduceEqDiff,Nat.reduceAdd,resP,tupV,wfV,wfL,yC,yB,yA]
  simp [Gv, tupV, gvV, gvL, wk, wkL, wkR, wfV, wfL, zeroP]
 | true =>
  cases h2 : decide (n < 0) with
  | true =>
   obtain ⟨e1, e2⟩ := hp zeroP 1 (by unfold newP; rw [h1, h2]; rfl)
   rw [e1, e2]
   simp -implicitDefEqProofs only [rX,↓rY,rdK,ofConst,cells?,splice,↓reduceIte,Nat.reduceEqDiff,Nat.reduceAdd,reduceCtorEq,freshP,buildP,litsP,isD,isC,Nat.reduceLT,Nat.reduceLeDiff,h2]
   refine ret_data ?_
   simp -implicitDefEqProofs only [rX,↓rY,↓reduceIte,Nat.reduceEqDiff,Nat.reduceAdd,resP,tupV,wfV,wfL,yC,yB,yA]
   simp [Gv, tupV, gvV, gvL, wk, wkL, wkR, wfV, wfL, zeroP]
  | false =>
   have h2' : ¬ n < 0 := by simpa using h2
   cases h3 : decide (1073741824 < n) with
   | true =>
    have h3' : 1073741824 < n := by simpa using h3
    obtain ⟨e1, e2⟩ := hp zeroP 2 (by simp [newP, h1, h2, h3'])
    rw [e1, e2]
    simp -implicitDefEqProofs only [rX,↓rY,rdK,ofConst,cells?,splice,↓reduceIte,Nat.reduceEqDiff,Nat.reduceAdd,reduceCtorEq,freshP,buildP,litsP,isD,isC,Nat.reduceLT,Nat.reduceLeDiff,h2,h3]
    refine ret_data ?_
    simp -implicitDefEqProofs only [rX,↓rY,↓reduceIte,Nat.reduceEqDiff,Nat.reduceAdd,resP,tupV,wfV,wfL,yC,yB,yA]
    simp [Gv, tupV, gvV, gvL, wk, wkL, wkR, wfV, wfL, zeroP]
   | false =>
    have h3' : ¬ 1073741824 < n := by simpa using h3
    obtain ⟨e1, e2⟩ := hp ⟨id, me, leftN n, [], [], [], []⟩ 0 (by simp [newP, h1, h2, h3'])
    rw [e1, e2]
    simp -implicitDefEqProofs only [rX,↓rY,rdK,ofConst,cells?,splice,↓reduceIte,Nat.reduceEqDiff,Nat.reduceAdd,reduceCtorEq,freshP,buildP,litsP,isD,isC,Nat.reduceLT,Nat.reduceLeDiff,h2,h3]
    have h2n : ¬ n < 0 := by simpa using h2
    refine ⟨by simp only [lo, hi]; omega, ?_⟩
    refine call_58m [(1, 1 + n)] rfl (by simp) (fun s hs => by rw [yZ] at hs; subst hs; simp) rfl rfl (by simp) trivial ?_
    rw [leftN_of]
    simp -implicitDefEqProofs only [rX,↓rY,ofConst,cells?,splice,↓reduceIte,Nat.reduceEqDiff,Nat.reduceAdd,reduceCtorEq,buildP,killE,killB,kill,kills,St.kill,isC,Nat.reduceLeDiff,yC,yB,yA]
    refine ret_data ?_
    simp -implicitDefEqProofs only [rX,↓rY,↓reduceIte,Nat.reduceEqDiff,Nat.reduceAdd,resP,tupV,wfV,wfL,yB,yA]
    simp [Gv, tupV, gvV, gvL, wk, wkL, wkR, wfV, wfL]
end Go.Fx.O
namespace Go.Fx.O
open Go Go.Fx Go.Proofs Go.Fx.R
set_option maxRecDepth 20000
theorem raw61 (l : List Sp) (hl : l.length ≤ 4398046511104) : Ok 61 [spans l] (fun r h => IsA (.sl 0 0 l.length) [.arr 2 (l.map enS)] r h ∨ (l = [] ∧ IsA .nil [] r h)) := by
 refine ok_of lw61 (by simp) ?_
 unfold c61 spans
 simp -implicitDefEqProofs only [rX,↓rY,ofConst,↓reduceIte,Nat.reduceEqDiff,reduceCtorEq,freshP,litsP,killE,killB,kill,St.kill,cxN,args0]
 have hA : retP [] 0 [LRes.tmp 2] (fun r h => IsA (.sl 0 0 l.length) [.arr 2 (l.map enS)] r h ∨ (l = [] ∧ IsA .nil [] r h)) ⟨[(2, V.sl 0 0 l.length), (7, V.sl 0 0 l.length), (6, V.ro 2 (yV enS l)), (5, V.any), (4, V.b false), (3, V.ro 2 (yV enS l)), (2, V.v (Value.slice none 0 0)), (0, V.ro 2 (yV enS l))], [Blk.arr 2 (yV enS l), Blk.dead], 0⟩ := by
  rw [retP_eq]
  simp -implicitDefEqProofs only [rX,↓reduceIte,resP,tupV,keepP,liveP,wfV]
  exact ⟨[.arr 2 (l.map enS)], ⟨by simp [leH, leB], by simp [wfV, wfL, liveP], by simp [wfB]⟩, .inl ⟨rfl, rfl⟩⟩
 refine ⟨fun _ => ⟨.inr trivial, by omega, hA⟩, fun h => ⟨?_, .inr trivial, by omega, hA⟩⟩
 have h0 : l = [] := by simpa using h
 rw [retP_eq]
 simp -implicitDefEqProofs only [rX,↓reduceIte,resP,tupV,keepP,wfV]
 exact ⟨[], ⟨by simp [leH], by simp, by simp [wfB]⟩, .inr ⟨h0, rfl, rfl⟩⟩
theorem ok61A (l : List Sp) (hl : l.length ≤ 4398046511104) : Ok 61 [spans l] (IsA (.sl 0 0 l.length) [.arr 2 (l.map enS)]) := by
 refine okN_ghost (raw61 l hl) ?_
 rintro r h (⟨rfl, rfl⟩ | ⟨rfl, rfl, rfl⟩)
 ·exact ⟨_, _, ⟨rfl, rfl⟩, _, .refl _, by simp -implicitDefEqProofs only [rX,↓reduceIte,leE,leH,leB,keepP,liveP,wfE,wfB,wfV]⟩
 ·refine ⟨_, _, ⟨rfl, rfl⟩, _, .virt 1 2 (by decide) (.nilE 0 0 rfl (.refl _)), ?_⟩
  simp -implicitDefEqProofs only [rX,↓reduceIte,leE,leH,leB,keepP,liveP,wfE,wfB,wfV,yP]
theorem MkOk.len {l : List Sp} {me : Int} (h : MkOk l me) : l.length ≤ 128 := by
 have key : ∀ k (hk : k < l.length), (k : Int) ≤ l[k].1 := by
  intro k
  induction k with
  | zero => intro hk; exact (h.at hk).1.1.1
  | succ k ih =>
   intro hk
   have h1 := ih (by omega)
   have h2 := (h.at hk).2 (by omega)
   simp only [Nat.add_sub_cancel] at h2
   omega
 rcases yI 128 l.length with c | c
 ·have h1 := key 128 c
  have h2 := (h.at c).1.1.2
  omega
 ·exact c
theorem mkB_iff {l : List Sp} {me : Int} : mkB l me = true ↔ MkOk l me := decide_eq_true_iff
def later (out : List Gift) (k : Nat) (to : Int) : Nat := ((out.drop k).filter fun g => g.to == to).length
def frontB (p : Purse) : Bool := partyB p.me && usB p.left && usB p.spent && decide ((meetS p.left p.spent).length = 0) && mkB p.sent p.me && mkB p.heard p.me && decide (p.out.length ≤ 64)
def goodB (p : Purse) (k : Nat) (h : k < p.out.length) : Bool :=
 isM p.sent p.out[k].to && decide (p.out[k].uses.length ≠ 0) && usB p.out[k].uses && (p.out[k].serial == markOf p.sent p.out[k].to - later p.out (k + 1) p.out[k].to) && decide (1 ≤ p.out[k].serial)
def Gds (p : Purse) : Prop := ∀ k (h : k < p.out.length), goodB p k h = true
instance {p : Purse} : Decidable (Gds p) := inferInstanceAs (Decidable (∀ k (h : k < p.out.length), goodB p k h = true))
def rtB (p : Purse) : Bool := frontB p && decide (Gds p)
def chkE (p : Purse) : Int := if rtB p then 0 else 1
theorem chk_front {p : Purse} (h : frontB p = false) : chkE p = 1 := by unfold chkE rtB; rw [h]; rfl
theorem chk_bad {p : Purse} {k : Nat} (hk : k < p.out.length) (h : goodB p k hk = false) : chkE p = 1 := by
 unfold chkE rtB
 rw [if_neg]
 rw [yM, decide_eq_true_eq]
 rintro ⟨_, h2⟩
 rw [h2 k hk] at h; cases h
theorem chk_ok {p : Purse} (h : frontB p = true) (h2 : Gds p) : chkE p = 0 := by
 unfold chkE rtB
 rw [if_pos]
 rw [h, decide_eq_true h2]; rfl
end Go.Fx.O
namespace Go.Fx.O
open Go Go.Fx Go.Proofs Go.Fx.R
set_option maxRecDepth 20000
def setM (l : List Sp) (who n : Int) : List Sp := (l.filter fun m => decide (m.1 < who)) ++ (who, n) :: l.filter fun m => decide (who < m.1)
theorem mks_split {l : List Sp} (hm : Mks l) (who : Int) : l.take (posM l who) = (l.filter fun m => decide (m.1 < who)) ∧ l.drop (if isM l who then posM l who + 1 else posM l who) = (l.filter fun m => decide (who < m.1)) ∧ posM l who ≤ l.length := by
 induction l with
 | nil => simp [posM, isM]
 | cons m l ih =>
  obtain ⟨h1, h2⟩ := mks_cons.1 hm
  obtain ⟨i1, i2, i3⟩ := ih h2
  rcases uA m.1 who with c | c | c
  ·have e1 : posM (m :: l) who = posM l who + 1 := by simp [posM, c]
   have e2 : isM (m :: l) who = isM l who := by simp [isM]; intro h; omega
   rw [e1, e2, yB, i1, vM (by simpa using c), yQ (by simp; omega), ← i2]
   refine ⟨rfl, ?_, by simp; omega⟩
   split <;> rfl
  ·have hno : l.filter (fun m => decide (m.1 < who)) = [] := by
    rw [vF]; intro t ht; have := h1 t ht; simp; omega
   have hall : l.filter (fun m => decide (who < m.1)) = l := by
    rw [vK]; intro t ht; have := h1 t ht; simp; omega
   have e1 : posM (m :: l) who = 0 := by unfold posM; rw [yQ (by simp; omega), hno]; rfl
   have e2 : isM (m :: l) who = true := by simp [isM, c]
   rw [e1, e2, yQ (by simp; omega), yQ (by simp; omega), hno, hall]
   simp
  ·have hno : l.filter (fun m => decide (m.1 < who)) = [] := by
    rw [vF]; intro t ht; have := h1 t ht; simp; omega
   have hall : l.filter (fun m => decide (who < m.1)) = l := by
    rw [vK]; intro t ht; have := h1 t ht; simp; omega
   have e1 : posM (m :: l) who = 0 := by
    unfold posM; rw [yQ (by simp; omega), hno]; rfl
   have e2 : isM (m :: l) who = false := by
    unfold isM; rw [vZ]; intro t ht
    rcases yO.1 ht with rfl | ht
    ·simp; omega
    ·have := h1 t ht; simp; omega
   rw [e1, e2, yQ (by simp; omega), vM (by simpa using c), hno, hall]
   simp
theorem setM_ins {l : List Sp} {who n : Int} (hm : Mks l) (h : isM l who = false) : insL l (posM l who) (who, n) = setM l who n := by
 obtain ⟨h1, h2, _⟩ := mks_split hm who
 rw [h] at h2
 unfold insL setM
 rw [h1]
 simp only [uB, if_false] at h2
 rw [h2]
theorem setM_set {l : List Sp} {who n : Int} (hm : Mks l) (h : isM l who = true) : l.set (posM l who) (who, n) = setM l who n := by
 obtain ⟨h1, h2, _⟩ := mks_split hm who
 obtain ⟨hk, _, _⟩ := posM_at hm h
 rw [h] at h2
 unfold setM
 simp only [if_true] at h2
 rw [← h1, ← h2, List.set_eq_take_append_cons_drop, if_pos hk]
theorem ok66Q (l : List Sp) (i : Nat) (m : Sp) (hi : i ≤ l.length) (hn : l.length ≤ 4398046511104) :
  OkN Tryz.prog 66 [.sl 0 0 l.length, .i i, .sl 1 0 1] [.arr 2 (l.map enS), .arr 2 [enS m]] [0, 1] (IsQ (fun _ : Unit => True) (fun _ => .sl 0 0 (insL l i m).length) (fun _ => [.arr 2 ((insL l i m).map enS), .dead])) :=
 okN_post (ok66 l i m hi hn) fun r h ⟨h1, h2⟩ => ⟨(), trivial, h1, h2⟩
theorem ok43 (l : List Sp) (who n : Int) (hm : Mks l) (hl : l.length ≤ 1000000) : Ok 43 [spans l, .i who, .i n] (Is (spans (setM l who n))) := by
 refine okN_gv ?_
 refine ok_of lw43 (by simp) ?_
 unfold c43
 simp -implicitDefEqProofs only [rX,ofConst,↓reduceIte,Nat.reduceAdd,reduceCtorEq,cxN,args0]
 refine call_isA [spans l] (.sl 0 0 l.length) (.sl 0 0 l.length) [.arr 2 (l.map enS)] [.arr 2 (l.map enS)] (ok61A l (by omega)) ⟨⟨trivial, trivial⟩, ⟨rfl, rfl⟩, trivial⟩ (by simp [ren]) (by simp [renB]) trivial ?_
 simp -implicitDefEqProofs only [rX,↓reduceIte,Nat.reduceEqDiff,reduceCtorEq]
 have htk : yG l.length (l.map enS) = l.map enS := yD (by simp)
 refine call_is (ok62 l who hm hl) ?_ rfl trivial ?_
 ·simp [lendsOk, lendOk, lends, lend, wkL, wk, wkB, pos, blk, htk]
 obtain ⟨s1, s2, s3⟩ := mks_split hm who
 cases h : isM l who with
 | true =>
  obtain ⟨h1, h2, h3⟩ := posM_at hm h
  simp -implicitDefEqProofs only [rX,↓rY,cells?,splice,↓reduceIte,Nat.reduceEqDiff,arrSz,Nat.reduceAdd,reduceCtorEq,isD,isC,enS_drop]
  refine ⟨⟨by omega, by omega⟩, h1, ?_⟩
  have he : (l.map enS).set (posM l who) (yG 1 (enS l[posM l who]) ++ [V.v (Value.int IntKind.i64 n)]) = (setM l who n).map enS := by
   rw [← setM_set hm h, List.map_set]
   congr 1
   show [V.v (Value.int IntKind.i64 l[posM l who].1), V.v (Value.int IntKind.i64 n)] = _
   rw [h2]; rfl
  rw [he]
  exact ret_sl rfl rfl (by rw [List.length_map, ← setM_set hm h, vO])
 | false =>
  simp -implicitDefEqProofs only [rX,↓rY,cells?,splice,↓reduceIte,Nat.reduceEqDiff,Nat.reduceAdd,reduceCtorEq,freshP,buildP,litsP,isD,Nat.reduceLT,Nat.reduceLeDiff]
  refine call_isM (fun _ : Unit => True) [0, 1] [0, 1] [0, 1] [.sl 0 0 l.length, .i (posM l who), .sl 1 0 1] (fun _ => .sl 0 0 (insL l (posM l who) (who, n)).length) [.arr 2 (l.map enS), .arr 2 [enS (who, n)]] (fun _ => [.arr 2 ((insL l (posM l who) (who, n)).map enS), .dead]) (ok66Q l (posM l who) (who, n) s3 (by omega)) (by simp) (by simp) (by simp [renB, enS, blk]) (by simp [lendsOk, lendOk, lends, lend, wkL, wk, pos]) ?_
  rintro ⟨⟩ _
  refine ⟨trivial, ?_⟩
  rw [setM_ins hm h]
  simp -implicitDefEqProofs only [rX,↓reduceIte,Nat.reduceAdd,reduceCtorEq,killE,killB,kill,kills,St.kill]
  exact ret_sl rfl rfl (by simp)
end Go.Fx.O
namespace Go.Fx.O
open Go Go.Fx Go.Proofs Go.Fx.R
set_option maxRecDepth 20000
end Go.Fx.O
namespace Go.Fx.O
open Go Go.Fx Go.Proofs Go.Fx.R
set_option maxRecDepth 20000
def spendP (p : Purse) : Purse × Int × Int :=
 if p.left.length = 0 then (p, 0, 4)
 else if 1000 < (minusS p.left (takeS p.left 1)).length ∨ 1000 < (bothS p.spent (takeS p.left 1)).length then (p, 0, 2)
 else ({ p with left := minusS p.left (takeS p.left 1), spent := bothS p.spent (takeS p.left 1) }, ((takeS p.left 1).headD (0, 0)).1, 0)
theorem take_bd {l : List Sp} {n : Int} (h : Vd l) : Vd (takeS l n) := vd_of (sep_takeS h.1) fun x hx => h.in (takeS_in hx)
theorem take1_ne {l : List Sp} (h : Vd l) (hn : l.length ≠ 0) : 0 < (takeS l 1).length := by
 cases l with
 | nil => simp at hn
 | cons s l =>
  have := (sep_cons.1 h.1).1
  unfold takeS
  rw [if_neg (by omega)]
  simp
theorem headD_get {l : List Sp} (h : 0 < l.length) : l.headD (0, 0) = l[0] := by
 cases l with
 | nil => simp at h
 | cons s l => rfl
theorem ok10 (p : Purse) (hl : Vd p.left) (hs : Vd p.spent) : Ok 10 [.agg p.enc] (Is (.tup [.agg (spendP p).1.enc, .i (spendP p).2.1, .i (spendP p).2.2])) := by
 refine okN_gv ?_
 refine ok_of lw10 (by simp) ?_
 unfold c10
 simp -implicitDefEqProofs only [rX,↓rY,ofConst,cells?,splice,↓reduceIte,Nat.reduceEqDiff,Nat.reduceAdd,freshP,cxN,zc22,args0]
 have hp : ∀ (P : Purse) (u e : Int), spendP p = (P, u, e) → (spendP p).1 = P ∧ (spendP p).2.1 = u ∧ (spendP p).2.2 = e := fun P u e h => by rw [h]; exact ⟨rfl, rfl, rfl⟩
 simp -implicitDefEqProofs only [rX,yB]
 have hll := hl.len
 cases h1 : decide (p.left.length = 0) with
 | true =>
  have h1' : p.left.length = 0 := by simpa using h1
  have h1i : ((p.left.length : Int) == 0) = true := by simp [h1']
  obtain ⟨e1, e2, e3⟩ := hp p 0 4 (by unfold spendP; rw [if_pos h1'])
  rw [e1, e2, e3]
  simp -implicitDefEqProofs only [rX,↓rY,Nat.reduceAdd,isC,yC,yA,h1i]
  intro _
  refine ret_data ?_
  simp -implicitDefEqProofs only [rX,↓rY,↓reduceIte,Nat.reduceEqDiff,Nat.reduceAdd,resP,tupV,wfV,wfL,yB,yA]
  simp [Gv, tupV, gvV, gvL, wk, wkL, wkR, wfV, wfL]
 | false =>
  have h1' : p.left.length ≠ 0 := by simpa using h1
  have h1i : ((p.left.length : Int) == 0) = false := beq_false_of_ne (by omega)
  simp -implicitDefEqProofs only [rX,↓rY,Nat.reduceAdd,isC,yC,yA,h1i]
  intro _
  refine call_is (ok38 p.left 1 hl (by omega)) ⟨⟨trivial, trivial, trivial⟩, ⟨rfl, rfl⟩, rfl, trivial⟩ rfl trivial ?_
  simp -implicitDefEqProofs only [rX,↓rY,↓reduceIte,Nat.reduceEqDiff,Nat.reduceAdd]
  have htv := take_bd (n := 1) hl
  refine call_is (ok39 p.spent (takeS p.left 1) hs htv.2) ⟨⟨trivial, trivial, trivial⟩, ⟨rfl, rfl⟩, ⟨rfl, rfl⟩, trivial⟩ rfl trivial ?_
  have hml := (hl.minus (b := takeS p.left 1)).len
  have hbl := (hs.both htv.2).len
  have htk := take1_ne hl h1'
  cases h2 : decide (1000 < (minusS p.left (takeS p.left 1)).length) with
  | true =>
   have h2' : 1000 < (minusS p.left (takeS p.left 1)).length := by simpa using h2
   have h2i : decide ((1000 : Int) < ((minusS p.left (takeS p.left 1)).length : Int)) = true := decide_eq_true (by omega)
   obtain ⟨e1, e2, e3⟩ := hp p 0 2 (by unfold spendP; rw [if_neg h1', if_pos (.inl h2')])
   rw [e1, e2, e3]
   simp -implicitDefEqProofs only [rX,↓rY,rdK,ofConst,cells?,splice,↓reduceIte,Nat.reduceEqDiff,Nat.reduceAdd,reduceCtorEq,isC,Nat.reduceLeDiff,enS_0,yC,yB,yA,h2i]
   intro _
   refine ret_data ?_
   simp -implicitDefEqProofs only [rX,↓rY,↓reduceIte,Nat.reduceEqDiff,Nat.reduceAdd,resP,tupV,wfV,wfL,yB,yA]
   simp [Gv, tupV, gvV, gvL, wk, wkL, wkR, wfV, wfL]
  | false =>
   have h2' : ¬ 1000 < (minusS p.left (takeS p.left 1)).length := by simpa using h2
   have h2i : decide ((1000 : Int) < ((minusS p.left (takeS p.left 1)).length : Int)) = false := decide_eq_false (by omega)
   cases h3 : decide (1000 < (bothS p.spent (takeS p.left 1)).length) with
   | true =>
    have h3' : 1000 < (bothS p.spent (takeS p.left 1)).length := by simpa using h3
    have h3i : decide ((1000 : Int) < ((bothS p.spent (takeS p.left 1)).length : Int)) = true := decide_eq_true (by omega)
    obtain ⟨e1, e2, e3⟩ := hp p 0 2 (by unfold spendP; rw [if_neg h1', if_pos (.inr h3')])
    rw [e1, e2, e3]
    simp -implicitDefEqProofs only [rX,↓rY,rdK,ofConst,cells?,splice,↓reduceIte,Nat.reduceEqDiff,Nat.reduceAdd,reduceCtorEq,isC,Nat.reduceLeDiff,enS_0,yC,yB,yA,h2i,h3i]
    intro _ _
    refine ret_data ?_
    simp -implicitDefEqProofs only [rX,↓rY,↓reduceIte,Nat.reduceEqDiff,Nat.reduceAdd,resP,tupV,wfV,wfL,yB,yA]
    simp [Gv, tupV, gvV, gvL, wk, wkL, wkR, wfV, wfL]
   | false =>
    have h3' : ¬ 1000 < (bothS p.spent (takeS p.left 1)).length := by simpa using h3
    have h3i : decide ((1000 : Int) < ((bothS p.spent (takeS p.left 1)).length : Int)) = false := decide_eq_false (by omega)
    obtain ⟨e1, e2, e3⟩ := hp { p with left := minusS p.left (takeS p.left 1), spent := bothS p.spent (takeS p.left 1) } ((takeS p.left 1).headD (0, 0)).1 0 (by unfold spendP; rw [if_neg h1', if_neg (by omega)])
    rw [e1, e2, e3, headD_get htk]
    simp -implicitDefEqProofs only [rX,↓rY,rdK,ofConst,cells?,splice,↓reduceIte,Nat.reduceEqDiff,Nat.reduceAdd,reduceCtorEq,isC,Nat.reduceLeDiff,enS_0,yC,yB,yA,h2i,h3i]
    refine fun _ _ => ⟨by omega, htk, ?_⟩
    refine ret_data ?_
    simp -implicitDefEqProofs only [rX,↓rY,↓reduceIte,Nat.reduceEqDiff,Nat.reduceAdd,resP,tupV,wfV,wfL,yB,yA]
    simp [Gv, tupV, gvV, gvL, wk, wkL, wkR, wfV, wfL]
end Go.Fx.O
namespace Go.Fx.O
open Go Go.Fx Go.Proofs Go.Fx.R
set_option maxRecDepth 20000
end Go.Fx.O
namespace Go.Fx.O
open Go Go.Fx Go.Proofs Go.Fx.R
set_option maxRecDepth 20000
theorem later_le {out : List Gift} {k : Nat} {to : Int} : later out k to ≤ out.length := by
 unfold later
 refine vC (uC _ _) ?_
 rw [List.length_drop]; omega
theorem g_len {g : Gift} : g.enc.length = 3 := rfl
theorem g_0 {g : Gift} : g.enc[0]? = some (.i g.to) := rfl
theorem g_1 {g : Gift} : g.enc[1]? = some (.i g.serial) := rfl
theorem g_2 {g : Gift} : g.enc[2]? = some (spans g.uses) := rfl
theorem g_C {g : Gift} : g.enc.all isC = true := rfl
theorem g_D {g : Gift} : g.enc.all isD = true := rfl
theorem g_t {g : Gift} : yG 3 g.enc = g.enc := rfl
end Go.Fx.O
namespace Go.Fx.O
open Go Go.Fx Go.Proofs Go.Fx.R
set_option maxRecDepth 20000
theorem later_take {out : List Gift} {k n : Nat} {to : Int} (hk : k ≤ n) (h : n < out.length) : later (out.take (n + 1)) k to = later (out.take n) k to + if out[n].to = to then 1 else 0 := by
 unfold later
 rw [yT, yU h, List.drop_append_of_le_length (by rw [vA]; omega), vS, vI]
 congr 1
 by_cases e : out[n].to = to
 ·simp [e]
 ·simp [e]
theorem ok37 (out : List Gift) (k : Nat) (to : Int) (hk : k ≤ out.length) (hl : out.length ≤ 1000000) : Ok 37 [gifts out, .i k, .i to] (Is (.i (later out k to))) := by
 refine ok_of lw37 (by simp) ?_
 unfold c37
 simp -implicitDefEqProofs only [rX,ofConst,↓reduceIte,Nat.reduceEqDiff,Nat.reduceAdd,reduceCtorEq,cxN,args0]
 refine loopP_intro (fun n : Nat => ⟨[(8, .i n), (7, .i (later (out.take n) k to)), (2, .i to), (0, gifts out)], [], 0⟩) (fun n => k ≤ n ∧ n ≤ out.length) (fun n => out.length - n) k ⟨vB _, hk⟩ ?_ ?_
 ·have h0 : later (out.take k) k to = 0 := by unfold later; rw [List.drop_of_length_le (by rw [vA]; omega)]; rfl
  simp -implicitDefEqProofs only [rX,↓reduceIte,Nat.reduceEqDiff,reduceCtorEq,leE,leH,keepP,wfE,wfB,wfV,h0,yF]
 rintro n ⟨hkn, hn⟩
 have hlt : later (out.take n) k to ≤ (out.take n).length := later_le
 rw [vA] at hlt
 unfold c37l0
 rcases yI n out.length with hn' | hn'
 ·have hd : decide ((n : Int) < (out.length : Int)) = true := decide_eq_true (by omega)
  have hst := later_take (to := to) hkn hn'
  cases he : out[n].to == to with
  | true =>
   have he' : out[n].to = to := by simpa using he
   rw [if_pos he'] at hst
   simp -implicitDefEqProofs only [rX,↓rY,ofConst,↓reduceIte,Nat.reduceEqDiff,reduceCtorEq,leE,leH,keepP,wfE,wfB,wfV,yA,hd,g_0,he]
   refine fun _ => ⟨⟨by omega, by omega⟩, hn', by simp only [lo, hi]; omega, by simp only [lo, hi]; omega, n + 1, ⟨⟨by omega, by omega⟩, by omega⟩, by simp, by rw [hst]; simp⟩
  | false =>
   have he' : ¬ out[n].to = to := by simpa using he
   rw [if_neg he'] at hst
   simp -implicitDefEqProofs only [rX,↓rY,ofConst,↓reduceIte,Nat.reduceEqDiff,reduceCtorEq,leE,leH,keepP,wfE,wfB,wfV,yA,hd,g_0,he]
   refine fun _ => ⟨⟨by omega, by omega⟩, hn', by simp only [lo, hi]; omega, n + 1, ⟨⟨by omega, by omega⟩, by omega⟩, by simp, by rw [hst]; simp⟩
 ·have hd : decide ((n : Int) < (out.length : Int)) = false := decide_eq_false (by omega)
  rw [yD hn']
  simp -implicitDefEqProofs only [rX,↓rY,↓reduceIte,Nat.reduceEqDiff,reduceCtorEq,resP,tupV,wfV,hd]
  exact fun _ => trivial
theorem mark0 {p : Purse} {to : Int} (h : MkOk p.sent p.me) : (markOf p.sent to == 0) = !isM p.sent to := by
 cases hi : isM p.sent to with
 | false => rw [markOf_no hi]; rfl
 | true =>
  obtain ⟨q1, q2, q3⟩ := posM_at h.mks hi
  have := h.at q1
  rw [q3]
  simp
  omega
end Go.Fx.O
namespace Go.Fx.O
open Go Go.Fx Go.Proofs Go.Fx.R
set_option maxRecDepth 20000
abbrev pat8 (p : Purse) (k : Nat) : St := ⟨[(7, .i k), (1, .ptr 0 0 0)], [.var p.enc], 0⟩
theorem body8 (p : Purse) (hfront : frontB p = true) (hmk : MkOk p.sent p.me) (hol : p.out.length ≤ 64) (k : Nat) (hg : k ≤ p.out.length ∧ ∀ j (h : j < p.out.length), j < k → goodB p j h = true) :
  aw (cxN Tryz.prog []) c8l0 (fun s' => ∃ g', ((g' ≤ p.out.length ∧ ∀ j (h : j < p.out.length), j < g' → goodB p j h = true) ∧ p.out.length - g' < p.out.length - k) ∧ leS [] s' (pat8 p g'))
   (fun j s' => if j = 0 then aw (cxN Tryz.prog []) ((LCode.reg 0 [⟨some 2, .mov (.const (.int .i64 0)), none⟩]).seq .ret) (retP [] 0 [.tmp 2] (Is (.i (chkE p)))) (fun _ _ => False) (retP [] 0 [.tmp 2] (Is (.i (chkE p)))) s' else False)
   (retP [] 0 [.tmp 2] (Is (.i (chkE p)))) (pat8 p k) := by
 obtain ⟨hg, hgood⟩ := hg
 have hsl := hmk.len
 unfold c8l0
 rcases yI k p.out.length with hk | hk
 ·have hd : decide ((k : Int) < (p.out.length : Int)) = true := decide_eq_true (by omega)
  have hkk : (0 : Int) ≤ (k : Int) ∧ (k : Int) < p.out.length := by omega
  have hbad : goodB p k hk = false → (1 : Int) = chkE p := fun h => (chk_bad hk h).symm
  simp -implicitDefEqProofs only [rX,↓rY,ofConst,cells?,splice,↓reduceIte,Nat.reduceEqDiff,Nat.reduceAdd,freshP,cxN,yC,yA,hd,g_len,g_0,g_C,g_t]
  refine fun hm => ⟨hkk, hk, ?_⟩
  refine call_is (ok36 p.sent p.out[k].to) ⟨⟨trivial, trivial, trivial⟩, ⟨rfl, rfl⟩, rfl, trivial⟩ rfl trivial ?_
  simp -implicitDefEqProofs only [rX,↓rY,↓reduceIte,Nat.reduceEqDiff,Nat.reduceAdd,g_2]
  refine call_is (ok32 p.out[k].uses) ⟨⟨trivial, trivial⟩, ⟨rfl, rfl⟩, trivial⟩ rfl trivial ?_
  have hm0 := mark0 (to := p.out[k].to) hmk
  cases h1 : isM p.sent p.out[k].to with
  | false =>
   rw [h1] at hm0
   simp -implicitDefEqProofs only [rX,↓rY,rdK,ofConst,↓reduceIte,Nat.reduceEqDiff,Nat.reduceAdd,resP,tupV,wfV,yA,g_0,g_1,g_2,hm0]
   exact hbad (by unfold goodB; rw [h1]; rfl)
  | true =>
   rw [h1] at hm0
   cases h3 : usB p.out[k].uses with
   | false =>
    simp -implicitDefEqProofs only [rX,↓rY,rdK,ofConst,↓reduceIte,Nat.reduceEqDiff,Nat.reduceAdd,resP,tupV,wfV,yA,hm0]
    exact hbad (by unfold goodB; rw [h1, h3]; simp)
   | true =>
    cases h2 : ((p.out[k].uses.length : Int) == 0) with
    | true =>
     have h2' : p.out[k].uses.length = 0 := by have := eq_of_beq h2; omega
     simp -implicitDefEqProofs only [rX,↓rY,rdK,ofConst,↓reduceIte,Nat.reduceEqDiff,Nat.reduceAdd,resP,tupV,wfV,yA,g_0,g_1,g_2,hm0,h2]
     exact fun _ => hbad (by unfold goodB; rw [h1, h2']; rfl)
    | false =>
     have h2' : decide (p.out[k].uses.length ≠ 0) = true := decide_eq_true (by have := ne_of_beq_false h2; omega)
     cases h5 : decide (p.out[k].serial < 1) with
     | true =>
      have h5' : decide (1 ≤ p.out[k].serial) = false := decide_eq_false (by have := of_decide_eq_true h5; omega)
      simp -implicitDefEqProofs only [rX,↓rY,rdK,ofConst,↓reduceIte,Nat.reduceEqDiff,Nat.reduceAdd,resP,tupV,wfV,yA,g_0,g_1,g_2,hm0,h2,h5]
      exact fun _ => hbad (by unfold goodB; rw [h1, h2', h3, h5']; simp)
     | false =>
      have h5' : decide (1 ≤ p.out[k].serial) = true := decide_eq_true (by have := of_decide_eq_false h5; omega)
      simp -implicitDefEqProofs only [rX,↓rY,rdK,ofConst,↓reduceIte,Nat.reduceEqDiff,Nat.reduceAdd,resP,tupV,wfV,yA,g_0,g_1,g_2,hm0,h2,h5]
      refine fun _ => ⟨by simp only [lo, hi]; omega, ?_⟩
      refine call_is (ok37 p.out (k + 1) p.out[k].to (by omega) (by omega)) ⟨⟨trivial, trivial, trivial, trivial⟩, ⟨rfl, rfl⟩, by simp [wk, lend], rfl, trivial⟩ rfl trivial ?_
      have hll : later p.out (k + 1) p.out[k].to ≤ p.out.length := later_le
      obtain ⟨q1, q2, q3⟩ := posM_at hmk.mks h1
      have hat := hmk.at q1
      cases h4 : (p.out[k].serial != (markOf p.sent p.out[k].to - later p.out (k + 1) p.out[k].to)) with
      | true =>
       simp -implicitDefEqProofs only [rX,↓rY,ofConst,↓reduceIte,Nat.reduceEqDiff,Nat.reduceAdd,resP,tupV,wfV,yA,h4]
       refine ⟨by rw [q3]; simp only [lo, hi]; omega, hbad ?_⟩
       have h4' : (p.out[k].serial == markOf p.sent p.out[k].to - later p.out (k + 1) p.out[k].to) = false := by simpa [bne] using h4
       unfold goodB; rw [h1, h2', h3, h4']; rfl
      | false =>
       have h4' : (p.out[k].serial == markOf p.sent p.out[k].to - later p.out (k + 1) p.out[k].to) = true := by simpa [bne] using h4
       simp -implicitDefEqProofs only [rX,↓rY,ofConst,↓reduceIte,Nat.reduceEqDiff,Nat.reduceAdd,leE,leH,leB,leV,leVs,keepP,liveP,wfE,wfB,wfV,wfL,yA,h4]
       refine ⟨by rw [q3]; simp only [lo, hi]; omega, by simp only [lo, hi]; omega, k + 1, ⟨⟨by omega, fun j hj hlt => ?_⟩, by omega⟩, by simp⟩
       by_cases e : j = k
       ·subst e
        unfold goodB; rw [h1, h2', h3, h4', h5']; rfl
       ·exact hgood j hj (by omega)
 ·have hd : decide ((k : Int) < (p.out.length : Int)) = false := decide_eq_false (by omega)
  simp -implicitDefEqProofs only [rX,↓rY,ofConst,↓reduceIte,Nat.reduceEqDiff,resP,tupV,wfV,cxN,yA,hd]
  exact fun _ => (chk_ok hfront fun j h => hgood j h (by omega)).symm
theorem ok8 (p : Purse) (hol : p.out.length ≤ 1000000) : Ok 8 [.agg p.enc] (Is (.i (chkE p))) := by
 refine ok_of lw8 (by simp) ?_
 unfold c8
 simp -implicitDefEqProofs only [rX,↓rY,ofConst,cells?,↓reduceIte,Nat.reduceEqDiff,freshP,cxN,yA,args0]
 refine call_is (ok32 p.left) ⟨⟨trivial, trivial⟩, ⟨rfl, rfl⟩, trivial⟩ rfl trivial ?_
 simp -implicitDefEqProofs only [rX,↓rY,↓reduceIte,Nat.reduceEqDiff]
 refine call_is (ok32 p.spent) ⟨⟨trivial, trivial⟩, ⟨rfl, rfl⟩, trivial⟩ rfl trivial ?_
 simp -implicitDefEqProofs only [rX,↓rY,↓reduceIte,Nat.reduceEqDiff]
 refine call_is (ok33 p.me) ⟨⟨trivial, trivial⟩, rfl, trivial⟩ rfl trivial ?_
 cases h1 : partyB p.me with
 | false =>
  simp -implicitDefEqProofs only [rX,↓rY,ofConst,↓reduceIte,Nat.reduceEqDiff,resP,tupV,wfV,yA]
  exact (chk_front (by unfold frontB; rw [h1]; simp)).symm
 | true =>
  cases h2 : usB p.left with
  | false =>
   simp -implicitDefEqProofs only [rX,↓rY,ofConst,↓reduceIte,Nat.reduceEqDiff,resP,tupV,wfV,yA]
   exact (chk_front (by unfold frontB; rw [h2]; simp)).symm
  | true =>
   cases h3 : usB p.spent with
   | false =>
    simp -implicitDefEqProofs only [rX,↓rY,ofConst,↓reduceIte,Nat.reduceEqDiff,resP,tupV,wfV,yA]
    exact (chk_front (by unfold frontB; rw [h3]; simp)).symm
   | true =>
    simp -implicitDefEqProofs only [rX,↓rY,↓reduceIte,Nat.reduceEqDiff]
    refine call_is (ok34 p.left p.spent (usB_iff.1 h2).v) ⟨⟨trivial, trivial, trivial⟩, ⟨rfl, rfl⟩, ⟨rfl, rfl⟩, trivial⟩ rfl trivial ?_
    cases h4 : decide ((meetS p.left p.spent).length = 0) with
    | false =>
     simp -implicitDefEqProofs only [rX,↓rY,ofConst,↓reduceIte,Nat.reduceEqDiff,resP,tupV,wfV,yA]
     exact (chk_front (by unfold frontB; rw [h4]; simp)).symm
    | true =>
     cases h7 : decide (p.out.length ≤ 64) with
     | false =>
      have h7' : decide ((64 : Int) < (p.out.length : Int)) = true := decide_eq_true (by have := of_decide_eq_false h7; omega)
      simp -implicitDefEqProofs only [rX,↓rY,ofConst,↓reduceIte,Nat.reduceEqDiff,resP,tupV,wfV,yA,h7']
      exact fun _ => (chk_front (by unfold frontB; rw [h7]; simp)).symm
     | true =>
      have h7' : decide ((64 : Int) < (p.out.length : Int)) = false := decide_eq_false (by have := of_decide_eq_true h7; omega)
      simp -implicitDefEqProofs only [rX,↓rY,ofConst,↓reduceIte,Nat.reduceEqDiff,resP,tupV,wfV,yA,h7']
      intro hm
      refine call_is (ok35 p.sent p.me) ⟨⟨trivial, trivial, trivial⟩, ⟨rfl, rfl⟩, rfl, trivial⟩ rfl trivial ?_
      simp -implicitDefEqProofs only [rX,↓rY,↓reduceIte,Nat.reduceEqDiff]
      refine call_is (ok35 p.heard p.me) ⟨⟨trivial, trivial, trivial⟩, ⟨rfl, rfl⟩, rfl, trivial⟩ rfl trivial ?_
      cases h5 : mkB p.sent p.me with
      | false =>
       simp -implicitDefEqProofs only [rX,↓rY,ofConst,↓reduceIte,Nat.reduceEqDiff,resP,tupV,wfV,yA]
       exact (chk_front (by unfold frontB; rw [h5]; simp)).symm
      | true =>
       cases h6 : mkB p.heard p.me with
       | false =>
        simp -implicitDefEqProofs only [rX,↓rY,ofConst,↓reduceIte,Nat.reduceEqDiff,resP,tupV,wfV,yA]
        exact (chk_front (by unfold frontB; rw [h6]; simp)).symm
       | true =>
        have hfront : frontB p = true := by unfold frontB; rw [h1, h2, h3, h4, h5, h6, h7]; rfl
        simp -implicitDefEqProofs only [rX,↓rY,ofConst,↓reduceIte,Nat.reduceEqDiff]
        refine loopP_intro (pat8 p) (fun k => k ≤ p.out.length ∧ ∀ j (h : j < p.out.length), j < k → goodB p j h = true) (fun k => p.out.length - k) 0 ⟨Nat.zero_le _, fun j h h2 => absurd h2 (vT _)⟩ ?_ (fun k hk => body8 p hfront (mkB_iff.1 h5) (of_decide_eq_true h7) k hk)
        simp -implicitDefEqProofs only [rX,↓reduceIte,Nat.reduceEqDiff,leE,leH,leB,leV,leVs,keepP,liveP,wfE,wfB,wfV,wfL,yF]
def frzQ (fx : List Nat) (v : V) (r : List Nat) (s : St) (K : St → Prop) : Prop :=
 match v with
 | .sl k _ _ => frz1 fx k (blk s.h k) s fun s' => frzP fx r s' K
 | _ => frzP fx r s K
theorem frzP_n {fx : List Nat} {s : St} {K : St → Prop} : frzP fx [] s K = K s := rfl
theorem frzP_c {fx : List Nat} {x : Nat} {r : List Nat} {e : Env} {h : List Blk} {b : Nat} {K : St → Prop} : frzP fx (x :: r) ⟨e, h, b⟩ K = frzQ fx (get e x) r ⟨e, h, b⟩ K := rfl
@[congr] theorem c_frzQ {fx : List Nat} {v v' : V} {r : List Nat} {s : St} {K : St → Prop} (q : v = v') : frzQ fx v r s K = frzQ fx v' r s K := by rw [q]
@[congr] theorem c_frz1 {fx : List Nat} {k : Nat} {B B' : Blk} {s : St} {K : St → Prop} (q : B = B') : frz1 fx k B s K = frz1 fx k B' s K := by rw [q]
@[congr] theorem c_frzP {fx xs : List Nat} {s s' : St} {K : St → Prop} (q : s = s') : frzP fx xs s K = frzP fx xs s' K := by rw [q]
theorem op_litsf {cx : Cx} {e : Env} {h : List Blk} {b : Nat} {K : V → St → Prop} {xs : List Nat} {j sz n : Nat} {z : List Value} {ps : List (Nat × Operand)} : aOp cx (.litsf xs j sz n z ps) ⟨e, h, b⟩ K =
  frzP (cx.fx ++ cx.bn) xs ⟨e, h, b⟩ fun s => litsP s.e sz (List.replicate n (z.map .v)) ps fun els => freshP s.h (s.b + j) ∧ K (.sl (s.b + j) 0 n) { s with h := s.h.set (s.b + j) (.arr sz els) } := rfl
theorem frzQ_r {fx : List Nat} {k : Nat} {l : List (List V)} {r : List Nat} {s : St} {K : St → Prop} : frzQ fx (.ro k l) r s K = frzP fx r s K := rfl
theorem frzQ_a {fx : List Nat} {l : List V} {r : List Nat} {s : St} {K : St → Prop} : frzQ fx (.agg l) r s K = frzP fx r s K := rfl
end Go.Fx.O
namespace Go.Fx.O
open Go Go.Fx Go.Proofs Go.Fx.R
set_option maxRecDepth 20000
theorem raw44 (l : List Gift) (hl : l.length ≤ 1000000) : Ok 44 [gifts l] (fun r h => IsA (.sl 0 0 l.length) [.arr 3 (l.map Gift.enc)] r h ∨ (l = [] ∧ IsA .nil [] r h)) := by
 refine ok_of lw44 (by simp) ?_
 unfold c44
 simp -implicitDefEqProofs only [rX,↓rY,ofConst,↓reduceIte,Nat.reduceEqDiff,reduceCtorEq,freshP,litsP,killE,killB,kill,St.kill,cxN,args0]
 have hA : retP [] 0 [LRes.tmp 2] (fun r h => IsA (.sl 0 0 l.length) [.arr 3 (l.map Gift.enc)] r h ∨ (l = [] ∧ IsA .nil [] r h)) ⟨[(2, V.sl 0 0 l.length), (7, V.sl 0 0 l.length), (6, gifts l), (5, V.any), (4, V.b false), (3, gifts l), (2, V.v (Value.slice none 0 0)), (0, gifts l)], [Blk.arr 3 (yV Gift.enc l), Blk.dead], 0⟩ := by
  rw [retP_eq]
  simp -implicitDefEqProofs only [rX,↓reduceIte,resP,tupV,keepP,liveP,wfV]
  exact ⟨[.arr 3 (l.map Gift.enc)], ⟨by simp [leH, leB], by simp [wfV, wfL, liveP], by simp [wfB]⟩, .inl ⟨rfl, rfl⟩⟩
 refine ⟨fun _ => ⟨.inr trivial, by omega, hA⟩, fun h => ⟨?_, .inr trivial, by omega, hA⟩⟩
 have h0 : l = [] := by simpa using h
 rw [retP_eq]
 simp -implicitDefEqProofs only [rX,↓reduceIte,resP,tupV,keepP,wfV]
 exact ⟨[], ⟨by simp [leH], by simp, by simp [wfB]⟩, .inr ⟨h0, rfl, rfl⟩⟩
theorem ok44A (l : List Gift) (hl : l.length ≤ 1000000) : Ok 44 [gifts l] (IsA (.sl 0 0 l.length) [.arr 3 (l.map Gift.enc)]) := by
 refine okN_ghost (raw44 l hl) ?_
 rintro r h (⟨rfl, rfl⟩ | ⟨rfl, rfl, rfl⟩)
 ·exact ⟨_, _, ⟨rfl, rfl⟩, _, .refl _, by simp -implicitDefEqProofs only [rX,↓reduceIte,leE,leH,leB,keepP,liveP,wfE,wfB,wfV]⟩
 ·refine ⟨_, _, ⟨rfl, rfl⟩, _, .virt 1 3 (by decide) (.nilE 0 0 rfl (.refl _)), ?_⟩
  simp -implicitDefEqProofs only [rX,↓reduceIte,leE,leH,leB,keepP,liveP,wfE,wfB,wfV,yP]
def giveP (p : Purse) (to n : Int) : Purse × Int :=
 if ((!partyB to || to == p.me) || decide (n < 1)) = true then (p, 1)
 else if tot p.left < n then (p, 4)
 else if 64 ≤ p.out.length ∨ 1099511627776 ≤ markOf p.sent to then (p, 2)
 else ({ p with left := minusS p.left (takeS p.left n), sent := setM p.sent to (markOf p.sent to + 1), out := p.out ++ [⟨to, markOf p.sent to + 1, takeS p.left n⟩] }, 0)
theorem mark_b {l : List Sp} {me who : Int} (h : MkOk l me) : 0 ≤ markOf l who ∧ markOf l who ≤ 1099511627776 := by
 cases hi : isM l who with
 | false => rw [markOf_no hi]; omega
 | true =>
  obtain ⟨h1, _, h3⟩ := posM_at h.mks hi
  rw [h3]
  have := (h.at h1).1
  omega
theorem ok11 (p : Purse) (to n : Int) (hl : Vd p.left) (hm : MkOk p.sent p.me) (ho : p.out.length ≤ 1000000) : Ok 11 [.agg p.enc, .i to, .i n] (Is (.tup [.agg (giveP p to n).1.enc, .i (giveP p to n).2])) := by
 refine okN_gv ?_
 refine ok_of lw11 (by simp) ?_
 unfold c11
 simp -implicitDefEqProofs only [rX,↓rY,ofConst,cells?,↓reduceIte,Nat.reduceEqDiff,Nat.reduceAdd,reduceCtorEq,freshP,cxN,zc22,yA,args0]
 have hp : ∀ (P : Purse) (e : Int), giveP p to n = (P, e) → (giveP p to n).1 = P ∧ (giveP p to n).2 = e := fun P e h => by rw [h]; exact ⟨rfl, rfl⟩
 have hll := hl.len
 have hmb := mark_b (who := to) hm
 have hml := hm.len
 have htt := hl.tot
 refine call_is (ok40 p.sent to hm.mks (by omega)) ⟨⟨trivial, trivial, trivial⟩, ⟨rfl, rfl⟩, rfl, trivial⟩ rfl trivial ?_
 simp -implicitDefEqProofs only [rX,↓rY,ofConst,↓reduceIte,Nat.reduceEqDiff,Nat.reduceAdd,reduceCtorEq,yA]
 refine ⟨by simp only [lo, hi]; omega, ?_⟩
 refine call_is (ok41 to) ⟨⟨trivial, trivial⟩, rfl, trivial⟩ rfl trivial ?_
 simp -implicitDefEqProofs only [rX,↓rY,ofConst,cells?,splice,↓reduceIte,Nat.reduceEqDiff,Nat.reduceAdd,reduceCtorEq,isC,yC,yB,yA]
 have hE1 : ∀ h : ((!partyB to || to == p.me) || decide (n < 1)) = true, (giveP p to n).1 = p ∧ (giveP p to n).2 = 1 := fun h => hp p 1 (by unfold giveP; rw [if_pos h])
 cases h1 : partyB to with
 | false =>
  obtain ⟨e1, e2⟩ := hE1 (by simp [h1])
  rw [e1, e2]
  simp -implicitDefEqProofs only [rX,↓rY]
  refine ret_data ?_
  simp -implicitDefEqProofs only [rX,↓rY,↓reduceIte,Nat.reduceEqDiff,Nat.reduceAdd,resP,tupV,wfV,wfL,yB,yA]
  simp [Gv, tupV, gvV, gvL, wk, wkL, wkR, wfV, wfL]
 | true =>
  cases h2 : to == p.me with
  | true =>
   obtain ⟨e1, e2⟩ := hE1 (by simp [h2])
   rw [e1, e2]
   simp -implicitDefEqProofs only [rX,↓rY]
   refine ret_data ?_
   simp -implicitDefEqProofs only [rX,↓rY,↓reduceIte,Nat.reduceEqDiff,Nat.reduceAdd,resP,tupV,wfV,wfL,yB,yA]
   simp [Gv, tupV, gvV, gvL, wk, wkL, wkR, wfV, wfL]
  | false =>
   cases h3 : decide (n < 1) with
   | true =>
    obtain ⟨e1, e2⟩ := hE1 (by simp [h3])
    rw [e1, e2]
    simp -implicitDefEqProofs only [rX,↓rY]
    refine ret_data ?_
    simp -implicitDefEqProofs only [rX,↓rY,↓reduceIte,Nat.reduceEqDiff,Nat.reduceAdd,resP,tupV,wfV,wfL,yB,yA]
    simp [Gv, tupV, gvV, gvL, wk, wkL, wkR, wfV, wfL]
   | false =>
    have h0 : ¬ ((!partyB to || to == p.me) || decide (n < 1)) = true := by simp [h1, h2, h3]
    have h3' : ¬ n < 1 := by simpa using h3
    simp -implicitDefEqProofs only [rX,↓rY]
    refine call_is (ok42 p.left hl) ⟨⟨trivial, trivial⟩, ⟨rfl, rfl⟩, trivial⟩ rfl trivial ?_
    cases h4 : decide (tot p.left < n) with
    | true =>
     have h4' : tot p.left < n := by simpa using h4
     obtain ⟨e1, e2⟩ := hp p 4 (by unfold giveP; rw [if_neg h0, if_pos h4'])
     rw [e1, e2]
     simp -implicitDefEqProofs only [rX,↓rY,ofConst,cells?,splice,↓reduceIte,Nat.reduceEqDiff,Nat.reduceAdd,isC,yC,yB,yA,h4]
     refine ret_data ?_
     simp -implicitDefEqProofs only [rX,↓rY,↓reduceIte,Nat.reduceEqDiff,Nat.reduceAdd,resP,tupV,wfV,wfL,yB,yA]
     simp [Gv, tupV, gvV, gvL, wk, wkL, wkR, wfV, wfL]
    | false =>
     have h4' : ¬ tot p.left < n := by simpa using h4
     cases h5 : decide (64 ≤ p.out.length) with
     | true =>
      have h5' : 64 ≤ p.out.length := by simpa using h5
      have h5i : decide ((64 : Int) ≤ (p.out.length : Int)) = true := decide_eq_true (by omega)
      obtain ⟨e1, e2⟩ := hp p 2 (by unfold giveP; rw [if_neg h0, if_neg h4', if_pos (.inl h5')])
      rw [e1, e2]
      simp -implicitDefEqProofs only [rX,↓rY,ofConst,cells?,splice,↓reduceIte,Nat.reduceEqDiff,Nat.reduceAdd,reduceCtorEq,isC,yC,yB,yA,h4,h5i]
      intro _
      refine ret_data ?_
      simp -implicitDefEqProofs only [rX,↓rY,↓reduceIte,Nat.reduceEqDiff,Nat.reduceAdd,resP,tupV,wfV,wfL,yB,yA]
      simp [Gv, tupV, gvV, gvL, wk, wkL, wkR, wfV, wfL]
     | false =>
      have h5' : ¬ 64 ≤ p.out.length := by simpa using h5
      have h5i : decide ((64 : Int) ≤ (p.out.length : Int)) = false := decide_eq_false (by omega)
      cases h6 : decide (1099511627776 < markOf p.sent to + 1) with
      | true =>
       have h6' : 1099511627776 ≤ markOf p.sent to := by simp at h6; omega
       obtain ⟨e1, e2⟩ := hp p 2 (by unfold giveP; rw [if_neg h0, if_neg h4', if_pos (.inr h6')])
       rw [e1, e2]
       simp -implicitDefEqProofs only [rX,↓rY,ofConst,cells?,splice,↓reduceIte,Nat.reduceEqDiff,Nat.reduceAdd,reduceCtorEq,isC,yC,yB,yA,h4,h5i,h6]
       intro _
       refine ret_data ?_
       simp -implicitDefEqProofs only [rX,↓rY,↓reduceIte,Nat.reduceEqDiff,Nat.reduceAdd,resP,tupV,wfV,wfL,yB,yA]
       simp [Gv, tupV, gvV, gvL, wk, wkL, wkR, wfV, wfL]
      | false =>
       have h6' : ¬ 1099511627776 ≤ markOf p.sent to := by simp at h6; omega
       obtain ⟨e1, e2⟩ := hp _ 0 (by unfold giveP; rw [if_neg h0, if_neg h4', if_neg (by omega)])
       rw [e1, e2]
       simp -implicitDefEqProofs only [rX,↓rY,ofConst,cells?,splice,↓reduceIte,Nat.reduceEqDiff,Nat.reduceAdd,reduceCtorEq,isC,yC,yB,yA,h4,h5i,h6]
       intro _
       refine call_is (ok38 p.left n hl (by omega)) ⟨⟨trivial, trivial, trivial⟩, ⟨rfl, rfl⟩, rfl, trivial⟩ rfl trivial ?_
       simp -implicitDefEqProofs only [rX,↓rY,cells?,splice,↓reduceIte,Nat.reduceEqDiff,Nat.reduceAdd,reduceCtorEq,isC,Nat.reduceLeDiff,yC,yB,yA]
       refine call_is (ok43 p.sent to (markOf p.sent to + 1) hm.mks (by omega)) ⟨⟨trivial, trivial, trivial, trivial⟩, ⟨rfl, rfl⟩, rfl, rfl, trivial⟩ rfl trivial ?_
       simp -implicitDefEqProofs only [rX,↓rY,cells?,splice,↓reduceIte,Nat.reduceEqDiff,Nat.reduceAdd,isC,Nat.reduceLeDiff,yC,yB,yA]
       refine call_isA [gifts p.out] (.sl 0 0 p.out.length) (.sl 4 0 p.out.length) [.arr 3 (p.out.map Gift.enc)] [.arr 3 (p.out.map Gift.enc)] (ok44A p.out ho) ⟨⟨trivial, trivial⟩, ⟨rfl, rfl⟩, trivial⟩ (by simp [ren]) (by simp [renB]) trivial ?_
       simp -implicitDefEqProofs only [rX,↓rY,ofConst,cells?,splice,↓reduceIte,Nat.reduceEqDiff,Nat.reduceAdd,reduceCtorEq,freshP,buildP,litsP,killE,killB,kill,kills,St.kill,isD,isC,Nat.reduceLT,Nat.reduceLeDiff,yC,yB,yA,↓op_litsf,↓frzP_n,↓frzP_c,↓frzQ_r]
       have hx : yG p.out.length (yV Gift.enc p.out) ++ [[V.v (Value.int IntKind.i64 to), V.v (Value.int IntKind.i64 (markOf p.sent to + 1)), spans (takeS p.left n)]] = (p.out ++ [(⟨to, markOf p.sent to + 1, takeS p.left n⟩ : Gift)]).map Gift.enc := by
        rw [yD (by simp), yL]; rfl
       have hn : p.out.length + 1 = (p.out ++ [(⟨to, markOf p.sent to + 1, takeS p.left n⟩ : Gift)]).length := by simp
       refine ⟨by omega, ?_⟩
       rw [hx, hn, retP_eq]
       generalize p.out ++ [(⟨to, markOf p.sent to + 1, takeS p.left n⟩ : Gift)] = Q
       have hQ : yG Q.length (Q.map Gift.enc) = Q.map Gift.enc := yD (by simp)
       simp -implicitDefEqProofs only [rX,↓rY,↓reduceIte,Nat.reduceEqDiff,Nat.reduceAdd,resP,tupV,keepP,liveP,wfV,wfL,yB,yA]
       refine ⟨[.dead, .dead, .dead, .dead, .arr 3 (Q.map Gift.enc)], ⟨by simp [leH, leB], by simp [tupV, wfV, wfL, liveP], by simp [wfB]⟩, ?_⟩
       simp [Gv, tupV, gvV, gvL, wk, wkL, wkR, wfV, wfL, blk, hQ]
end Go.Fx.O
namespace Go.Fx.O
open Go Go.Fx Go.Proofs Go.Fx.R
set_option maxRecDepth 20000
end Go.Fx.O
namespace Go.Fx.O
open Go Go.Fx Go.Proofs Go.Fx.R
set_option maxRecDepth 20000
structure Ltr where
 id : Dig
 kind : Int
 frm : Int
 to : Int
 serial : Int
 uses : List Sp
 deriving DecidableEq, Inhabited
def Ltr.enc (l : Ltr) : List V := [u8 l.id.a0, u8 l.id.a1, u8 l.id.a2, u8 l.id.a3, u8 l.id.a4, u8 l.id.a5, u8 l.id.a6, u8 l.id.a7, u8 l.id.a8, u8 l.id.a9, u8 l.id.a10, u8 l.id.a11, u8 l.id.a12, u8 l.id.a13, u8 l.id.a14, u8 l.id.a15, .i l.kind, .i l.frm, .i l.to, .i l.serial, spans l.uses]
abbrev ltrs (l : List Ltr) : V := .ro 21 (l.map Ltr.enc)
theorem l_len {l : Ltr} : l.enc.length = 21 := rfl
theorem l_C {l : Ltr} : l.enc.all isC = true := rfl
theorem l_t {l : Ltr} : yG 21 l.enc = l.enc := rfl
def letP (p : Purse) (g : Gift) : Ltr := ⟨p.id, 1, p.me, g.to, g.serial, g.uses⟩
def lettersP (p : Purse) : List Ltr := p.out.map (letP p)
theorem ok16 (p : Purse) (ho : p.out.length ≤ 1000000) (hu : ∀ g ∈ p.out, g.uses.length ≤ 4398046511104) : Ok 16 [.agg p.enc] (Is (ltrs (lettersP p))) := by
 refine okN_gv ?_
 refine ok_of lw16 (by simp) ?_
 unfold c16
 simp -implicitDefEqProofs only [rX,↓rY,ofConst,cells?,↓reduceIte,Nat.reduceEqDiff,freshP,cxN,yA,args0]
 intro hm
 refine loopP_ghost (.virt 1 21 (by decide) (.nilE 3 1 rfl (.refl _))) (fun k : Nat => ⟨[(9, .i k), (8, .i p.out.length), (7, gifts p.out), (3, .sl 1 0 k), (1, .ptr 0 0 0)], [.var p.enc, .arr 21 ((p.out.take k).map fun g => (letP p g).enc)], 1⟩) (fun k => k ≤ p.out.length) (fun k => p.out.length - k) 0 (by omega) ?_ ?_
 ·simp -implicitDefEqProofs only [rX,↓reduceIte,Nat.reduceEqDiff,leE,leH,leB,leV,leVs,keepP,liveP,wfE,wfB,wfV,wfL,yF,yP]
 rintro k hk
 unfold c16l0
 rcases yI k p.out.length with hk' | hk'
 ·have hd : decide ((k : Int) < (p.out.length : Int)) = true := decide_eq_true (by omega)
  have hkk : (0 : Int) ≤ k ∧ (k : Int) < p.out.length := ⟨by omega, by omega⟩
  simp -implicitDefEqProofs only [rX,↓rY,rdK,ofConst,cells?,splice,↓reduceIte,Nat.reduceEqDiff,Nat.reduceAdd,freshP,Nat.reduceLeDiff,yC,yB,yA,hd,g_len,g_0,g_1,g_2,g_C,g_t]
  refine ⟨hkk, hk', ?_⟩
  refine call_is (ok50 p.out[k].uses (hu _ (yH hk'))) ⟨⟨trivial, trivial⟩, ⟨rfl, rfl⟩, trivial⟩ rfl trivial ?_
  simp -implicitDefEqProofs only [rX,↓rY,ofConst,cells?,splice,↓reduceIte,Nat.reduceEqDiff,Nat.reduceAdd,reduceCtorEq,freshP,buildP,litsP,leE,leH,leB,leV,leVs,keepP,liveP,wfE,wfB,wfV,wfL,killE,killB,kill,kills,St.kill,isD,Nat.reduceLT,Nat.reduceLeDiff,yC,yB,yA,↓op_litsf,↓frzP_n,↓frzP_c,↓frzQ_r]
  have hkl : (yG k p.out).length = k := by rw [vA]; omega
  have hx : yG k (yV (fun g => (letP p g).enc) (yG k p.out)) = yV (fun g => (letP p g).enc) (yG k p.out) := yD (by simp; omega)
  refine ⟨⟨by omega, by omega⟩, by simp only [lo, hi]; omega, k + 1, ⟨by omega, by omega⟩, ⟨by simp, rfl⟩, ?_⟩
  rw [hx, yT, yU hk', yL]
  rfl
 ·have hd : decide ((k : Int) < (p.out.length : Int)) = false := decide_eq_false (by omega)
  rw [yD hk']
  simp -implicitDefEqProofs only [rX,↓rY,↓reduceIte,Nat.reduceEqDiff,Nat.reduceAdd,yA,hd]
  have he : (p.out.map fun g => (letP p g).enc) = (lettersP p).map Ltr.enc := by unfold lettersP; rw [List.map_map]; rfl
  rw [he]
  exact ret_sl rfl rfl (by simp [lettersP]; omega)
end Go.Fx.O
namespace Go.Fx
open Go.RowKit
def dpC (x y : V) : Prop := y = x ∨ (x = .nil ∧ ∃ s, y = .ro s [])
def dpCs : List V → List V → Prop
 | [], [] => True
 | x :: xs, y :: ys => dpC x y ∧ dpCs xs ys
 | _, _ => False
def dpEs : List (List V) → List (List V) → Prop
 | [], [] => True
 | x :: xs, y :: ys => dpCs x y ∧ dpEs xs ys
 | _, _ => False
def dpV (x y : V) : Prop := y = x ∨ ∃ s a b, x = .ro s a ∧ y = .ro s b ∧ dpEs a b
def dpL : List V → List V → Prop
 | [], [] => True
 | x :: xs, y :: ys => dpV x y ∧ dpL xs ys
 | _, _ => False
theorem dpCs_snoc {s : Nat} : ∀ {xs : List V}, dpCs (xs ++ [.nil]) (xs ++ [.ro s []])
 | [] => ⟨.inr ⟨rfl, s, rfl⟩, trivial⟩
 | _ :: _ => ⟨.inl rfl, dpCs_snoc⟩
theorem dpCs_len : ∀ {xs ys : List V}, dpCs xs ys → ys.length = xs.length
 | [], [], _ => rfl
 | _ :: _, _ :: _, h => by simp [dpCs_len h.2]
 | [], _ :: _, h => h.elim
 | _ :: _, [], h => h.elim
theorem RepCs_dp {S : Nat → Prop} {w : World} {b : Nat} : ∀ {xs ys : List V} {off : Nat}, dpCs xs ys → RepCs S w b off xs → RepCs S w b off ys
 | [], [], _, _, _ => trivial
 | x :: xs, y :: ys, off, ⟨h1, h2⟩, ⟨⟨val, h3, h4⟩, h5⟩ => by
  refine ⟨⟨val, h3, ?_⟩, RepCs_dp h2 h5⟩
  rcases h1 with rfl | ⟨rfl, s, rfl⟩
  ·exact h4
  ·obtain ⟨rfl, _⟩ := h4
   exact ⟨none, 0, 0, rfl, rfl, vB _, Nat.zero_le _, .inl rfl⟩
 | [], _ :: _, _, h, _ => h.elim
 | _ :: _, [], _, h, _ => h.elim
theorem RepEls_dp {S : Nat → Prop} {w : World} {sz b : Nat} : ∀ {a c : List (List V)} {off : Nat}, dpEs a c → RepEls S w sz b off a → RepEls S w sz b off c
 | [], [], _, _, _ => trivial
 | x :: xs, y :: ys, off, ⟨h1, h2⟩, ⟨⟨h3, h4⟩, h5⟩ => ⟨⟨(dpCs_len h1).trans h3, RepCs_dp h1 h4⟩, RepEls_dp h2 h5⟩
 | [], _ :: _, _, h, _ => h.elim
 | _ :: _, [], _, h, _ => h.elim
theorem dpEs_len : ∀ {xs ys : List (List V)}, dpEs xs ys → ys.length = xs.length
 | [], [], _ => rfl
 | _ :: _, _ :: _, h => by simp [dpEs_len h.2]
 | [], _ :: _, h => h.elim
 | _ :: _, [], h => h.elim
theorem RepV_dp {ρ : Nat → Loc} {X : Nat → Prop} {w : World} {x y : V} {val : Value} (h : dpV x y) (hr : RepV ρ X w x val) : RepV ρ X w y val := by
 rcases h with rfl | ⟨s, a, b, rfl, rfl, h⟩
 ·exact hr
 ·obtain ⟨ad, len, cap, h1, h2, h3, h4, h5⟩ := hr
  refine ⟨ad, len, cap, h1, by rw [dpEs_len h]; exact h2, h3, h4, ?_⟩
  rcases h5 with rfl | ⟨bb, off, h6, h7, h8⟩
  ·exact .inl (vQ.1 (dpEs_len h))
  ·exact .inr ⟨bb, off, h6, h7, RepEls_dp h h8⟩
theorem RepL_dp {ρ : Nat → Loc} {X : Nat → Prop} {w : World} : ∀ {xs ys : List V} {vals : List Value}, dpL xs ys → RepL ρ X w xs vals → RepL ρ X w ys vals
 | [], [], _, _, h => h
 | x :: xs, y :: ys, v :: vs, ⟨h1, h2⟩, ⟨h3, h4⟩ => ⟨RepV_dp h1 h3, RepL_dp h2 h4⟩
 | [], _ :: _, _, h, _ => h.elim
 | _ :: _, [], _, h, _ => h.elim
 | _ :: _, _ :: _, [], _, h => h.elim
theorem okN_dp {P : Program} {f : FuncId} {zas : List V} {x y : V} (h : OkN P f zas [] [] (Is x)) (hd : dpV x y ∨ (∃ xs ys, x = .agg xs ∧ y = .agg ys ∧ dpL xs ys) ∨ ∃ xs ys, x = .tup xs ∧ y = .tup ys ∧ dpL xs ys) : OkN P f zas [] [] (Is y) := by
 refine ⟨h.1, ?_⟩
 intro ρ X w vals h1 h2
 refine (h.2 ρ X w vals h1 h2).mono ?_
 rintro e w' ⟨val, r, h', ρ', q1, ⟨⟨rfl, rfl⟩, q2⟩, q3, q4, q5, q6⟩
 refine ⟨val, y, [], ρ', q1, ⟨⟨rfl, rfl⟩, q2⟩, q3, q4, ?_, q6⟩
 rcases hd with hd | ⟨xs, ys, rfl, rfl, hd⟩ | ⟨xs, ys, rfl, rfl, hd⟩
 ·exact RepV_dp hd q5
 ·obtain ⟨arr, a1, a2⟩ := q5
  exact ⟨arr, a1, RepL_dp hd a2⟩
 ·obtain ⟨arr, a1, a2⟩ := q5
  exact ⟨arr, a1, RepL_dp hd a2⟩
end Go.Fx
namespace Go.Fx.O
open Go Go.Fx Go.Proofs Go.Fx.R
set_option maxRecDepth 20000
theorem ok69 (l : List Sp) : Ok 69 [spans l] (Is (.b (decide (0 < l.length) && usB l))) := by
 refine ok_of lw69 (by simp) ?_
 unfold c69
 simp -implicitDefEqProofs only [rX,↓rY,ofConst,↓reduceIte,Nat.reduceEqDiff,reduceCtorEq,resP,tupV,wfV,cxN,args0]
 cases h : decide ((0 : Int) < (l.length : Int)) with
 | true =>
  have h2 : decide (0 < l.length) = true := by simp at h; simp; omega
  simp -implicitDefEqProofs only [↓rY]
  intro _
  refine call_is (ok59 l) ⟨⟨trivial, trivial⟩, ⟨rfl, rfl⟩, trivial⟩ rfl trivial ?_
  simp -implicitDefEqProofs only [rX,↓rY,↓reduceIte,Nat.reduceEqDiff,resP,tupV,wfV]
  rw [h2]; rfl
 | false =>
  have h2 : decide (0 < l.length) = false := by simp at h; simp; omega
  simp -implicitDefEqProofs only [↓rY]
  intro _
  rw [h2]; rfl
theorem ok71 (l : List Sp) : Ok 71 [spans l] (Is (.b (decide (l.length = 0)))) := by
 refine ok_of lw71 (by simp) ?_
 unfold c71
 simp -implicitDefEqProofs only [rX,↓rY,ofConst,↓reduceIte,reduceCtorEq,resP,tupV,wfV,cxN,args0]
 intro _
 rw [vJ]; simp
def ofV (kind : Int) : V := if kind = 1 then .tup [.agg [.clo 69 [], .clo 70 []], .b true] else if kind = 2 then .tup [.agg [.clo 71 [], .clo 72 []], .b true] else .tup [.agg [.v .nilFunc, .v .nilFunc], .b false]
theorem ok51 (kind : Int) : Ok 51 [.i kind] (Is (ofV kind)) := by
 refine ok_of lw51 (by simp) ?_
 unfold c51
 simp -implicitDefEqProofs only [rX,↓rY,ofConst,cells?,splice,↓reduceIte,Nat.reduceEqDiff,Nat.reduceAdd,reduceCtorEq,freshP,buildP,resP,tupV,wfV,wfL,isC,Nat.reduceLeDiff,cxN,yC,yB,yA,args0]
 by_cases h1 : kind = 1
 ·subst h1
  exact ⟨fun _ => rfl, fun h => by simp at h⟩
 ·have h1' : (kind == 1) = false := by simpa using h1
  by_cases h2 : kind = 2
  ·subst h2
   exact ⟨fun h => by simp at h, fun _ => ⟨fun _ => rfl, fun h => by simp at h⟩⟩
  ·have h2' : (kind == 2) = false := by simpa using h2
   rw [h1', h2']
   refine ⟨fun h => by simp at h, fun _ => ⟨fun h => by simp at h, fun _ => ?_⟩⟩
   unfold ofV
   rw [if_neg h1, if_neg h2]
def ackL (p : Purse) (to serial : Int) : Ltr := ⟨p.id, 2, p.me, to, serial, []⟩
def ackN (p : Purse) (to serial : Int) : List V := [u8 p.id.a0, u8 p.id.a1, u8 p.id.a2, u8 p.id.a3, u8 p.id.a4, u8 p.id.a5, u8 p.id.a6, u8 p.id.a7, u8 p.id.a8, u8 p.id.a9, u8 p.id.a10, u8 p.id.a11, u8 p.id.a12, u8 p.id.a13, u8 p.id.a14, u8 p.id.a15, .i 2, .i p.me, .i to, .i serial, .nil]
theorem ack_dp {p : Purse} {to serial : Int} : dpV (.ro 21 [ackN p to serial]) (ltrs [ackL p to serial]) := .inr ⟨21, _, _, rfl, rfl, dpCs_snoc (xs := (ackL p to serial).enc.take 20), trivial⟩
end Go.Fx.O
namespace Go.Fx.O
open Go Go.Fx Go.Proofs Go.Fx.R
set_option maxRecDepth 20000
def keepB (L : Ltr) (g : Gift) : Bool := (g.to != L.frm) || decide (L.serial < g.serial)
theorem le_17 {L : Ltr} : L.enc[17]? = some (.i L.frm) := rfl
theorem le_19 {L : Ltr} : L.enc[19]? = some (.i L.serial) := rfl
theorem l_le {L : Ltr} : leVs L.enc L.enc := by simp [Ltr.enc, leVs, leV]
theorem l_wf {L : Ltr} {q : List Blk} : wfL q L.enc := by simp [Ltr.enc, wfL, wfV]
theorem l_kill {L : Ltr} {M : List Nat} : kills M L.enc = L.enc := rfl
theorem l_ren {L : Ltr} {f : Nat → Option Nat} : rens f L.enc = L.enc := rfl
theorem ok86 (L : Ltr) (g : Gift) : OkN Tryz.prog 86 [.agg g.enc, .ptr 0 0 0] [.var L.enc] [] (IsA (.b (keepB L g)) [.var L.enc]) := by
 refine okN_of pol [0] lw86 (by simp) ⟨trivial, trivial⟩ (by simp) ?_
 unfold c86
 simp -implicitDefEqProofs only [rX,↓rY,ofConst,cells?,↓reduceIte,Nat.reduceEqDiff,Nat.reduceAdd,reduceCtorEq,freshP,resP,tupV,leH,leB,keepP,liveP,wfB,wfV,cxN,yA,args0,retP_isA,g_0,g_1,le_17,le_19]
 unfold keepB
 cases h : g.to != L.frm with
 | true =>
  simp -implicitDefEqProofs only [↓rY]
  exact ⟨⟨l_le, l_wf⟩, rfl⟩
 | false =>
  simp -implicitDefEqProofs only [↓rY]
  exact ⟨⟨l_le, l_wf⟩, rfl⟩
theorem ok85 (L : Ltr) (l : List Gift) (hl : l.length ≤ 1000000) : OkN Tryz.prog 85 [gifts l, .clo 86 [.ptr 0 0 0]] [.var L.enc] [] (IsA (.sl 1 0 (l.filter (keepB L)).length) [.var L.enc, .arr 3 ((l.filter (keepB L)).map Gift.enc)]) := by
 refine okN_of pol [0] lw85 (by simp) ⟨trivial, trivial⟩ (by simp) ?_
 unfold c85
 simp -implicitDefEqProofs only [rX,↓rY,ofConst,↓reduceIte,reduceCtorEq,cxN,args0]
 intro hm
 refine loopP_ghost (.virt 1 3 (by decide) (.nilE 5 1 rfl (.refl _))) (fun k : Nat => ⟨[(10, .i k), (9, .i l.length), (8, gifts l), (5, .sl 1 0 ((l.take k).filter (keepB L)).length), (1, .clo 86 [.ptr 0 0 0])], [.var L.enc, .arr 3 (((l.take k).filter (keepB L)).map Gift.enc)], 0⟩) (fun k => k ≤ l.length) (fun k => l.length - k) 0 (by omega) ?_ ?_
 ·simp -implicitDefEqProofs only [rX,↓reduceIte,Nat.reduceEqDiff,reduceCtorEq,leE,leH,leB,keepP,liveP,wfE,wfB,wfV,wfL,yF,yP,List.filter_nil]
  exact ⟨l_le, l_wf⟩
 rintro k hk
 unfold c85l0
 rcases yI k l.length with hk' | hk'
 ·have hd : decide ((k : Int) < (l.length : Int)) = true := decide_eq_true (by omega)
  have hkk : (0 : Int) ≤ k ∧ (k : Int) < l.length := ⟨by omega, by omega⟩
  simp -implicitDefEqProofs only [rX,↓rY,ofConst,cells?,splice,↓reduceIte,Nat.reduceEqDiff,Nat.reduceAdd,freshP,yC,yA,hd,g_len,g_C,g_t]
  refine ⟨hkk, hk', ?_⟩
  have htk : yG ((l.take k).filter (keepB L)).length (((l.take k).filter (keepB L)).map Gift.enc) = ((l.take k).filter (keepB L)).map Gift.enc := yD (by simp)
  have hfl : ((l.take k).filter (keepB L)).length ≤ k := vC (uC ..) (by rw [vA]; omega)
  refine call_isN [0] [.agg l[k].enc, .ptr 0 0 0] (.b (keepB L l[k])) (.b (keepB L l[k])) [.var L.enc] [.var L.enc] _ (ok86 L l[k]) ⟨by simp, by simp⟩ rfl ?_ (by simp) rfl rfl ?_ ?_
  ·simp [lendsOk, lendOk, lends, lend, wkL, wk, wkR, pos, Gift.enc]
  ·simp [setAll, keepP, liveP, renB]
  have hst : (l.take (k + 1)).filter (keepB L) = (l.take k).filter (keepB L) ++ (if keepB L l[k] then [l[k]] else []) := by
   rw [yT, yU hk', vS]
   simp only [Option.toList_some, vX, List.filter_nil]
  cases hb : keepB L l[k] with
  | true =>
   rw [hb] at hst
   simp -implicitDefEqProofs only [rX,↓rY,ofConst,cells?,↓reduceIte,Nat.reduceEqDiff,Nat.reduceAdd,reduceCtorEq,freshP,litsP,leE,leH,leB,keepP,liveP,wfE,wfB,wfV,wfL,killE,killB,kill,kills,St.kill,Nat.reduceLT,yB,yA,setAll,renB,l_ren,htk,g_len,g_D,g_t,↓op_litsf,↓frzP_n,↓frzP_c,↓frzQ_a]
   refine ⟨by omega, by simp only [lo, hi]; omega, k + 1, ⟨by omega, by omega⟩, ?_⟩
   rw [hst, l_kill]
   simp only [if_true, vI, uG, yL, yJ, uD]
   exact ⟨⟨by simp, trivial⟩, ⟨l_le, trivial⟩, l_wf⟩
  | false =>
   rw [hb] at hst
   simp -implicitDefEqProofs only [rX,↓rY,ofConst,↓reduceIte,Nat.reduceEqDiff,Nat.reduceAdd,leE,leH,leB,keepP,liveP,wfE,wfB,wfV,wfL,yA,setAll,renB,l_ren]
   refine ⟨by simp only [lo, hi]; omega, k + 1, ⟨by omega, by omega⟩, ?_⟩
   rw [hst]
   simp only [uB, if_false, List.append_nil]
   exact ⟨⟨by simp, trivial⟩, ⟨l_le, trivial⟩, l_wf⟩
 ·have hd : decide ((k : Int) < (l.length : Int)) = false := decide_eq_false (by omega)
  rw [yD hk']
  simp -implicitDefEqProofs only [rX,↓rY,↓reduceIte,Nat.reduceEqDiff,Nat.reduceAdd,yA,hd]
  rw [retP_isA]
  simp -implicitDefEqProofs only [rX,↓reduceIte,Nat.reduceAdd,resP,tupV,leH,leB,keepP,liveP,wfB,wfV,Nat.reduceLeDiff,yA]
  exact ⟨l_le, l_wf⟩
def ackP (p : Purse) (L : Ltr) : Purse := if L.serial ≤ markOf p.sent L.frm then { p with out := p.out.filter (keepB L) } else p
theorem ok72 (p : Purse) (L : Ltr) (hm : Mks p.sent) (hl : p.sent.length ≤ 1000000) (ho : p.out.length ≤ 1000000) : Ok 72 [.agg p.enc, .agg L.enc] (Is (.tup [.agg (ackP p L).enc, .i 0])) := by
 refine okN_gv ?_
 refine ok_of lw72 (by simp) ?_
 unfold c72
 simp -implicitDefEqProofs only [rX,↓rY,rdK,ofConst,cells?,↓reduceIte,Nat.reduceEqDiff,Nat.reduceAdd,reduceCtorEq,freshP,cxN,zc22,yA,args0,le_17,le_19]
 refine call_is (ok40 p.sent L.frm hm hl) ⟨⟨trivial, trivial, trivial⟩, ⟨rfl, rfl⟩, rfl, trivial⟩ rfl trivial ?_
 cases h : decide (L.serial ≤ markOf p.sent L.frm) with
 | true =>
  have h' : L.serial ≤ markOf p.sent L.frm := by simpa using h
  have e : ackP p L = { p with out := p.out.filter (keepB L) } := if_pos h'
  rw [e]
  simp -implicitDefEqProofs only [rX,↓rY,↓reduceIte,Nat.reduceEqDiff,Nat.reduceAdd,yA,h]
  refine call_isN [1] [gifts p.out, .clo 86 [.ptr 0 0 0]] (.sl 1 0 (p.out.filter (keepB L)).length) (.sl 3 0 (p.out.filter (keepB L)).length) [.var L.enc] [.var L.enc, .arr 3 ((p.out.filter (keepB L)).map Gift.enc)] _ (ok85 L p.out ho) ⟨by simp, by simp⟩ rfl ?_ (by simp) rfl rfl ?_ ?_
  ·simp [lendsOk, lendOk, lends, lend, wkL, wk, wkR, pos]
  ·trivial
  simp -implicitDefEqProofs only [rX,↓rY,ofConst,cells?,splice,↓reduceIte,Nat.reduceEqDiff,Nat.reduceAdd,isC,Nat.reduceLeDiff,yC,yB,yA,setAll,renB,l_ren]
  generalize p.out.filter (keepB L) = Q
  have hQ : yG Q.length (Q.map Gift.enc) = Q.map Gift.enc := yD (by simp)
  rw [retP_eq]
  simp -implicitDefEqProofs only [rX,↓rY,↓reduceIte,Nat.reduceEqDiff,Nat.reduceAdd,resP,tupV,keepP,liveP,wfV,wfL,yB,yA]
  refine ⟨[.dead, .dead, .dead, .arr 3 (Q.map Gift.enc)], ⟨by simp [leH, leB], by simp [tupV, wfV, wfL, liveP], by simp [wfB]⟩, ?_⟩
  simp [Gv, tupV, gvV, gvL, wk, wkL, wkR, wfV, wfL, blk, hQ]
 | false =>
  have h' : ¬ L.serial ≤ markOf p.sent L.frm := by simpa using h
  have e : ackP p L = p := if_neg h'
  rw [e]
  simp -implicitDefEqProofs only [rX,↓rY,ofConst,cells?,splice,↓reduceIte,Nat.reduceEqDiff,Nat.reduceAdd,isC,yC,yB,yA,h]
  refine ret_data ?_
  simp -implicitDefEqProofs only [rX,↓rY,↓reduceIte,Nat.reduceEqDiff,Nat.reduceAdd,resP,tupV,wfV,wfL,yB,yA]
  simp [Gv, tupV, gvV, gvL, wk, wkL, wkR, wfV, wfL]
end Go.Fx.O
namespace Go.Fx.O
open Go Go.Fx Go.Proofs Go.Fx.R
set_option maxRecDepth 20000
theorem le_20 {L : Ltr} : L.enc[20]? = some (spans L.uses) := rfl
theorem le_18 {L : Ltr} : L.enc[18]? = some (.i L.to) := rfl
theorem le_16 {L : Ltr} : L.enc[16]? = some (.i L.kind) := rfl
def gOk (p : Purse) (L : Ltr) : Bool := (L.serial == markOf p.heard L.frm + 1) && decide ((meetS L.uses p.left).length = 0) && decide ((meetS L.uses p.spent).length = 0) && decide ((bothS p.left L.uses).length ≤ 1000)
def giftP (p : Purse) (L : Ltr) : Purse × Int :=
 if L.serial ≤ markOf p.heard L.frm then (p, markOf p.heard L.frm)
 else if gOk p L = true then ({ p with left := bothS p.left L.uses, heard := setM p.heard L.frm L.serial }, L.serial)
 else (p, 0)
theorem ok70 (p : Purse) (L : Ltr) (hl : Vd p.left) (hs : Vd p.spent) (hu : Vd L.uses) (hm : MkOk p.heard p.me) : Ok 70 [.agg p.enc, .agg L.enc] (Is (.tup [.agg (giftP p L).1.enc, .i (giftP p L).2])) := by
 refine okN_gv ?_
 refine ok_of lw70 (by simp) ?_
 unfold c70
 simp -implicitDefEqProofs only [rX,↓rY,ofConst,cells?,↓reduceIte,Nat.reduceEqDiff,Nat.reduceAdd,reduceCtorEq,freshP,cxN,zc22,yA,args0,le_17]
 have hp : ∀ (P : Purse) (e : Int), giftP p L = (P, e) → (giftP p L).1 = P ∧ (giftP p L).2 = e := fun P e h => by rw [h]; exact ⟨rfl, rfl⟩
 have hmb := mark_b (who := L.frm) hm
 have hml := hm.len
 have hbl := (hl.both hu.2).len
 refine call_is (ok40 p.heard L.frm hm.mks (by omega)) ⟨⟨trivial, trivial, trivial⟩, ⟨rfl, rfl⟩, rfl, trivial⟩ rfl trivial ?_
 cases h1 : decide (L.serial ≤ markOf p.heard L.frm) with
 | true =>
  have h1' : L.serial ≤ markOf p.heard L.frm := by simpa using h1
  obtain ⟨e1, e2⟩ := hp p (markOf p.heard L.frm) (by unfold giftP; rw [if_pos h1'])
  rw [e1, e2]
  simp -implicitDefEqProofs only [rX,↓rY,cells?,splice,↓reduceIte,Nat.reduceEqDiff,Nat.reduceAdd,isC,yC,yB,yA,h1,le_19]
  refine ret_data ?_
  simp -implicitDefEqProofs only [rX,↓rY,↓reduceIte,Nat.reduceEqDiff,Nat.reduceAdd,resP,tupV,wfV,wfL,yB,yA]
  simp [Gv, tupV, gvV, gvL, wk, wkL, wkR, wfV, wfL]
 | false =>
  have h1' : ¬ L.serial ≤ markOf p.heard L.frm := by simpa using h1
  have hno : gOk p L = false → (giftP p L).1 = p ∧ (giftP p L).2 = 0 := fun h => hp p 0 (by unfold giftP; rw [if_neg h1', h]; rfl)
  simp -implicitDefEqProofs only [rX,↓rY,ofConst,cells?,splice,↓reduceIte,Nat.reduceEqDiff,Nat.reduceAdd,isC,yC,yB,yA,h1,le_19,le_20]
  refine ⟨by simp only [lo, hi]; omega, ?_⟩
  cases h2 : L.serial == markOf p.heard L.frm + 1 with
  | false =>
   obtain ⟨e1, e2⟩ := hno (by unfold gOk; rw [h2]; rfl)
   rw [e1, e2]
   simp -implicitDefEqProofs only [↓rY]
   refine ret_data ?_
   simp -implicitDefEqProofs only [rX,↓rY,↓reduceIte,Nat.reduceEqDiff,Nat.reduceAdd,resP,tupV,wfV,wfL,yB,yA]
   simp [Gv, tupV, gvV, gvL, wk, wkL, wkR, wfV, wfL]
  | true =>
   simp -implicitDefEqProofs only [↓rY]
   refine call_is (ok57 L.uses p.left hu hl) ⟨⟨trivial, trivial, trivial⟩, ⟨rfl, rfl⟩, ⟨rfl, rfl⟩, trivial⟩ rfl trivial ?_
   cases h3 : decide ((meetS L.uses p.left).length = 0) with
   | false =>
    obtain ⟨e1, e2⟩ := hno (by unfold gOk; rw [h2, h3]; rfl)
    rw [e1, e2]
    simp -implicitDefEqProofs only [rX,↓rY,ofConst,cells?,splice,↓reduceIte,Nat.reduceEqDiff,Nat.reduceAdd,isC,yC,yB,yA]
    refine ret_data ?_
    simp -implicitDefEqProofs only [rX,↓rY,↓reduceIte,Nat.reduceEqDiff,Nat.reduceAdd,resP,tupV,wfV,wfL,yB,yA]
    simp [Gv, tupV, gvV, gvL, wk, wkL, wkR, wfV, wfL]
   | true =>
    simp -implicitDefEqProofs only [rX,↓rY,↓reduceIte,Nat.reduceEqDiff,le_20]
    refine call_is (ok57 L.uses p.spent hu hs) ⟨⟨trivial, trivial, trivial⟩, ⟨rfl, rfl⟩, ⟨rfl, rfl⟩, trivial⟩ rfl trivial ?_
    cases h4 : decide ((meetS L.uses p.spent).length = 0) with
    | false =>
     obtain ⟨e1, e2⟩ := hno (by unfold gOk; rw [h2, h3, h4]; rfl)
     rw [e1, e2]
     simp -implicitDefEqProofs only [rX,↓rY,ofConst,cells?,splice,↓reduceIte,Nat.reduceEqDiff,Nat.reduceAdd,isC,yC,yB,yA]
     refine ret_data ?_
     simp -implicitDefEqProofs only [rX,↓rY,↓reduceIte,Nat.reduceEqDiff,Nat.reduceAdd,resP,tupV,wfV,wfL,yB,yA]
     simp [Gv, tupV, gvV, gvL, wk, wkL, wkR, wfV, wfL]
    | true =>
     simp -implicitDefEqProofs only [rX,↓rY,↓reduceIte,Nat.reduceEqDiff,le_20]
     refine call_is (ok39 p.left L.uses hl hu.2) ⟨⟨trivial, trivial, trivial⟩, ⟨rfl, rfl⟩, ⟨rfl, rfl⟩, trivial⟩ rfl trivial ?_
     cases h5 : decide ((bothS p.left L.uses).length ≤ 1000) with
     | false =>
      have h5' : ¬ (bothS p.left L.uses).length ≤ 1000 := by simpa using h5
      have h5i : decide (((bothS p.left L.uses).length : Int) ≤ 1000) = false := decide_eq_false (by omega)
      obtain ⟨e1, e2⟩ := hno (by unfold gOk; rw [h2, h3, h4, h5]; rfl)
      rw [e1, e2]
      simp -implicitDefEqProofs only [rX,↓rY,ofConst,cells?,splice,↓reduceIte,Nat.reduceEqDiff,Nat.reduceAdd,isC,yC,yB,yA,h5i,le_20]
      intro _
      refine ret_data ?_
      simp -implicitDefEqProofs only [rX,↓rY,↓reduceIte,Nat.reduceEqDiff,Nat.reduceAdd,resP,tupV,wfV,wfL,yB,yA]
      simp [Gv, tupV, gvV, gvL, wk, wkL, wkR, wfV, wfL]
     | true =>
      have h5' : (bothS p.left L.uses).length ≤ 1000 := by simpa using h5
      have h5i : decide (((bothS p.left L.uses).length : Int) ≤ 1000) = true := decide_eq_true (by omega)
      have hyes : gOk p L = true := by unfold gOk; rw [h2, h3, h4, h5]; rfl
      obtain ⟨e1, e2⟩ := hp { p with left := bothS p.left L.uses, heard := setM p.heard L.frm L.serial } L.serial (by unfold giftP; rw [if_neg h1', if_pos hyes])
      rw [e1, e2]
      simp -implicitDefEqProofs only [rX,↓rY,ofConst,cells?,splice,↓reduceIte,Nat.reduceEqDiff,Nat.reduceAdd,isC,yC,yB,yA,h5i,le_20]
      intro _
      refine call_is (ok39 p.left L.uses hl hu.2) ⟨⟨trivial, trivial, trivial⟩, ⟨rfl, rfl⟩, ⟨rfl, rfl⟩, trivial⟩ rfl trivial ?_
      simp -implicitDefEqProofs only [rX,↓rY,cells?,splice,↓reduceIte,Nat.reduceEqDiff,Nat.reduceAdd,isC,Nat.reduceLeDiff,yC,yB,yA,le_17,le_19]
      refine call_is (ok43 p.heard L.frm L.serial hm.mks (by omega)) ⟨⟨trivial, trivial, trivial, trivial⟩, ⟨rfl, rfl⟩, rfl, rfl, trivial⟩ rfl trivial ?_
      simp -implicitDefEqProofs only [rX,↓rY,rdK,cells?,splice,↓reduceIte,Nat.reduceEqDiff,Nat.reduceAdd,reduceCtorEq,isC,Nat.reduceLeDiff,yC,yB,yA,le_19]
      refine ret_data ?_
      simp -implicitDefEqProofs only [rX,↓rY,↓reduceIte,Nat.reduceEqDiff,Nat.reduceAdd,resP,tupV,wfV,wfL,yB,yA]
      simp [Gv, tupV, gvV, gvL, wk, wkL, wkR, wfV, wfL]
end Go.Fx.O
namespace Go.Fx.O
open Go Go.Fx Go.Proofs Go.Fx.R
set_option maxRecDepth 20000
def outL (p : Purse) (L : Ltr) : Bool := ((((!(L.id == p.id) || (L.to != p.me)) || !partyB L.frm) || (L.frm == p.me)) || !countsB L.serial)
def rightL (L : Ltr) : Bool := if L.kind = 1 then decide (0 < L.uses.length) && usB L.uses else if L.kind = 2 then decide (L.uses.length = 0) else false
def hearA (p : Purse) (L : Ltr) : Purse × Int :=
 if (outL p L || !rightL L) = true then (p, 0) else if L.kind = 1 then giftP p L else (ackP p L, 0)
theorem giftP_id {p : Purse} {L : Ltr} : (giftP p L).1.id = p.id ∧ (giftP p L).1.me = p.me := by
 unfold giftP
 split
 ·exact ⟨rfl, rfl⟩
 ·split <;> exact ⟨rfl, rfl⟩
def ansN (p : Purse) (L : Ltr) (n : Int) : List (List V) := if n = 0 then [] else [ackN p L.frm n]
def ansL (p : Purse) (L : Ltr) (n : Int) : List Ltr := if n = 0 then [] else [ackL p L.frm n]
theorem ans_dp {p : Purse} {L : Ltr} {n : Int} : dpV (.ro 21 (ansN p L n)) (ltrs (ansL p L n)) := by
 unfold ansN ansL
 split
 ·exact .inl rfl
 ·exact ack_dp
theorem pl_lend {p : Purse} {L : Ltr} {h : List Blk} {f : Nat → Option Nat} : lendsOk h f [.agg p.enc, .agg L.enc] ∧ wkL [.agg p.enc, .agg L.enc] (lends h f [.agg p.enc, .agg L.enc]) := by
 simp [lendsOk, lendOk, lends, lend, wkL, wk, wkR, Ltr.enc]
theorem raw18 (p : Purse) (L : Ltr) (hl : Vd p.left) (hs : Vd p.spent) (hm : MkOk p.heard p.me) (hm2 : MkOk p.sent p.me) (ho : p.out.length ≤ 1000000) : Ok 18 [.agg p.enc, .agg L.enc] (Is (.tup [.agg (hearA p L).1.enc, .ro 21 (ansN p L (hearA p L).2)])) := by
 refine okN_gv ?_
 refine ok_of lw18 (by simp) ?_
 unfold c18
 simp -implicitDefEqProofs only [rX,↓rY,ofConst,cells?,↓reduceIte,Nat.reduceEqDiff,Nat.reduceAdd,reduceCtorEq,freshP,cxN,zc22,yA,args0,le_16]
 have hml := hm2.len
 have hno : (outL p L || !rightL L) = true → (hearA p L).1 = p ∧ ansN p L (hearA p L).2 = [] := fun h => by
  unfold hearA; rw [if_pos h]; exact ⟨rfl, rfl⟩
 refine call_is (ok51 L.kind) ⟨⟨trivial, trivial⟩, rfl, trivial⟩ (by unfold ofV; split; rfl; split <;> rfl) trivial ?_
 by_cases hk1 : L.kind = 1
 ·have hov : ofV L.kind = .tup [.agg [.clo 69 [], .clo 70 []], .b true] := if_pos hk1
  have hrt : rightL L = (decide (0 < L.uses.length) && usB L.uses) := if_pos hk1
  rw [hov]
  simp -implicitDefEqProofs only [rX,↓rY,ofConst,cells?,splice,↓reduceIte,Nat.reduceEqDiff,Nat.reduceAdd,freshP,isC,Nat.reduceLeDiff,yC,yB,yA,l_len,le_17,le_18]
  refine Eq.mpr (eq_dig (d := L.id) (e := p.id)) ?_
  cases h1 : L.id == p.id with
  | false =>
   obtain ⟨e1, e2⟩ := hno (by unfold outL; rw [h1]; rfl)
   rw [e1, e2]
   simp -implicitDefEqProofs only [rX,↓rY]
   refine ret_data ?_
   simp -implicitDefEqProofs only [rX,↓rY,↓reduceIte,Nat.reduceEqDiff,Nat.reduceAdd,resP,tupV,wfV,wfL,yB,yA]
   simp [Gv, tupV, gvV, gvL, wk, wkL, wkR, wfV, wfL]
  | true =>
   cases h2 : L.to != p.me with
   | true =>
    obtain ⟨e1, e2⟩ := hno (by unfold outL; rw [h1, h2]; rfl)
    rw [e1, e2]
    simp -implicitDefEqProofs only [rX,↓rY]
    refine ret_data ?_
    simp -implicitDefEqProofs only [rX,↓rY,↓reduceIte,Nat.reduceEqDiff,Nat.reduceAdd,resP,tupV,wfV,wfL,yB,yA]
    simp [Gv, tupV, gvV, gvL, wk, wkL, wkR, wfV, wfL]
   | false =>
    simp -implicitDefEqProofs only [rX,↓rY]
    refine call_is (ok41 L.frm) ⟨⟨trivial, trivial⟩, rfl, trivial⟩ rfl trivial ?_
    cases h3 : partyB L.frm with
    | false =>
     obtain ⟨e1, e2⟩ := hno (by unfold outL; rw [h1, h2, h3]; rfl)
     rw [e1, e2]
     simp -implicitDefEqProofs only [rX,↓rY,ofConst,cells?,splice,↓reduceIte,Nat.reduceEqDiff,Nat.reduceAdd,isC,yC,yB,yA]
     refine ret_data ?_
     simp -implicitDefEqProofs only [rX,↓rY,↓reduceIte,Nat.reduceEqDiff,Nat.reduceAdd,resP,tupV,wfV,wfL,yB,yA]
     simp [Gv, tupV, gvV, gvL, wk, wkL, wkR, wfV, wfL]
    | true =>
     cases h4 : L.frm == p.me with
     | true =>
      obtain ⟨e1, e2⟩ := hno (by unfold outL; rw [h1, h2, h3, h4]; rfl)
      rw [e1, e2]
      simp -implicitDefEqProofs only [rX,↓rY,ofConst,cells?,splice,↓reduceIte,Nat.reduceEqDiff,Nat.reduceAdd,isC,yC,yB,yA,h4,le_17]
      refine ret_data ?_
      simp -implicitDefEqProofs only [rX,↓rY,↓reduceIte,Nat.reduceEqDiff,Nat.reduceAdd,resP,tupV,wfV,wfL,yB,yA]
      simp [Gv, tupV, gvV, gvL, wk, wkL, wkR, wfV, wfL]
     | false =>
      simp -implicitDefEqProofs only [rX,↓rY,↓reduceIte,Nat.reduceEqDiff,yA,h4,le_17,le_19]
      refine call_is (ok52 L.serial) ⟨⟨trivial, trivial⟩, rfl, trivial⟩ rfl trivial ?_
      cases h5 : countsB L.serial with
      | false =>
       obtain ⟨e1, e2⟩ := hno (by unfold outL; rw [h1, h2, h3, h4, h5]; rfl)
       rw [e1, e2]
       simp -implicitDefEqProofs only [rX,↓rY,ofConst,cells?,splice,↓reduceIte,Nat.reduceEqDiff,Nat.reduceAdd,isC,yC,yB,yA]
       refine ret_data ?_
       simp -implicitDefEqProofs only [rX,↓rY,↓reduceIte,Nat.reduceEqDiff,Nat.reduceAdd,resP,tupV,wfV,wfL,yB,yA]
       simp [Gv, tupV, gvV, gvL, wk, wkL, wkR, wfV, wfL]
      | true =>
       simp -implicitDefEqProofs only [rX,↓rY,↓reduceIte,Nat.reduceEqDiff,le_20]
       refine call_is (ok69 L.uses) ⟨⟨trivial, trivial⟩, ⟨rfl, rfl⟩, trivial⟩ rfl trivial ?_
       cases h6 : decide (0 < L.uses.length) && usB L.uses with
       | false =>
        obtain ⟨e1, e2⟩ := hno (by rw [hrt, h6]; simp)
        rw [e1, e2]
        simp -implicitDefEqProofs only [rX,↓rY,ofConst,cells?,splice,↓reduceIte,Nat.reduceEqDiff,Nat.reduceAdd,isC,yC,yB,yA]
        refine ret_data ?_
        simp -implicitDefEqProofs only [rX,↓rY,↓reduceIte,Nat.reduceEqDiff,Nat.reduceAdd,resP,tupV,wfV,wfL,yB,yA]
        simp [Gv, tupV, gvV, gvL, wk, wkL, wkR, wfV, wfL]
       | true =>
        have hgo : ¬ (outL p L || !rightL L) = true := by rw [hrt, h6]; unfold outL; rw [h1, h2, h3, h4, h5]; simp
        simp -implicitDefEqProofs only [rX,↓rY,↓reduceIte,Nat.reduceEqDiff,Nat.reduceAdd,yB,yA,l_len,l_t]
        have hus : usB L.uses = true := by simp at h6; exact h6.2
        have hu := (usB_iff.1 hus).1
        have hA : hearA p L = giftP p L := by unfold hearA; rw [if_neg hgo, if_pos hk1]
        rw [hA]
        refine call_is (ok70 p L hl hs hu hm) pl_lend rfl trivial ?_
        obtain ⟨gi, gm⟩ := giftP_id (p := p) (L := L)
        generalize giftP p L = r at gi gm ⊢
        simp -implicitDefEqProofs only [rX,↓rY,rdK,ofConst,cells?,splice,↓reduceIte,Nat.reduceEqDiff,Nat.reduceAdd,reduceCtorEq,freshP,buildP,litsP,isD,isC,Nat.reduceLT,Nat.reduceLeDiff,yC,yB,yA,le_17]
        cases hn : r.2 == 0 with
        | true =>
         have hn' : r.2 = 0 := by simpa using hn
         have e : ansN p L r.2 = [] := if_pos hn'
         rw [e]
         simp -implicitDefEqProofs only [↓rY]
         refine ret_data ?_
         simp -implicitDefEqProofs only [rX,↓rY,↓reduceIte,Nat.reduceEqDiff,Nat.reduceAdd,resP,tupV,wfV,wfL,yB,yA]
         simp [Gv, tupV, gvV, gvL, wk, wkL, wkR, wfV, wfL]
        | false =>
         have hn' : r.2 ≠ 0 := by simpa using hn
         have e : ansN p L r.2 = [ackN r.1 L.frm r.2] := by unfold ansN; rw [if_neg hn']; unfold ackN; rw [gi, gm]
         rw [e]
         simp -implicitDefEqProofs only [↓rY]
         rw [retP_eq]
         simp -implicitDefEqProofs only [rX,↓rY,↓reduceIte,Nat.reduceEqDiff,Nat.reduceAdd,resP,tupV,keepP,liveP,wfV,wfL,yB,yA]
         refine ⟨[.dead, .dead, .dead, .dead, .arr 21 [ackN r.1 L.frm r.2]], ⟨⟨trivial, trivial, trivial, trivial, rfl, trivial⟩, by simp [tupV, wfV, wfL, liveP], by simp [wfB]⟩, ?_⟩
         simp [Gv, tupV, gvV, gvL, wk, wkL, wkR, wfV, wfL, blk]
 ·by_cases hk2 : L.kind = 2
  ·have hov : ofV L.kind = .tup [.agg [.clo 71 [], .clo 72 []], .b true] := by unfold ofV; rw [if_neg hk1, if_pos hk2]
   have hrt : rightL L = decide (L.uses.length = 0) := by unfold rightL; rw [if_neg hk1, if_pos hk2]
   rw [hov]
   simp -implicitDefEqProofs only [rX,↓rY,ofConst,cells?,splice,↓reduceIte,Nat.reduceEqDiff,Nat.reduceAdd,freshP,isC,Nat.reduceLeDiff,yC,yB,yA,l_len,le_17,le_18]
   refine Eq.mpr (eq_dig (d := L.id) (e := p.id)) ?_
   cases h1 : L.id == p.id with
   | false =>
    obtain ⟨e1, e2⟩ := hno (by unfold outL; rw [h1]; rfl)
    rw [e1, e2]
    simp -implicitDefEqProofs only [rX,↓rY]
    refine ret_data ?_
    simp -implicitDefEqProofs only [rX,↓rY,↓reduceIte,Nat.reduceEqDiff,Nat.reduceAdd,resP,tupV,wfV,wfL,yB,yA]
    simp [Gv, tupV, gvV, gvL, wk, wkL, wkR, wfV, wfL]
   | true =>
    cases h2 : L.to != p.me with
    | true =>
     obtain ⟨e1, e2⟩ := hno (by unfold outL; rw [h1, h2]; rfl)
     rw [e1, e2]
     simp -implicitDefEqProofs only [rX,↓rY]
     refine ret_data ?_
     simp -implicitDefEqProofs only [rX,↓rY,↓reduceIte,Nat.reduceEqDiff,Nat.reduceAdd,resP,tupV,wfV,wfL,yB,yA]
     simp [Gv, tupV, gvV, gvL, wk, wkL, wkR, wfV, wfL]
    | false =>
     simp -implicitDefEqProofs only [rX,↓rY]
     refine call_is (ok41 L.frm) ⟨⟨trivial, trivial⟩, rfl, trivial⟩ rfl trivial ?_
     cases h3 : partyB L.frm with
     | false =>
      obtain ⟨e1, e2⟩ := hno (by unfold outL; rw [h1, h2, h3]; rfl)
      rw [e1, e2]
      simp -implicitDefEqProofs only [rX,↓rY,ofConst,cells?,splice,↓reduceIte,Nat.reduceEqDiff,Nat.reduceAdd,isC,yC,yB,yA]
      refine ret_data ?_
      simp -implicitDefEqProofs only [rX,↓rY,↓reduceIte,Nat.reduceEqDiff,Nat.reduceAdd,resP,tupV,wfV,wfL,yB,yA]
      simp [Gv, tupV, gvV, gvL, wk, wkL, wkR, wfV, wfL]
     | true =>
      cases h4 : L.frm == p.me with
      | true =>
       obtain ⟨e1, e2⟩ := hno (by unfold outL; rw [h1, h2, h3, h4]; rfl)
       rw [e1, e2]
       simp -implicitDefEqProofs only [rX,↓rY,ofConst,cells?,splice,↓reduceIte,Nat.reduceEqDiff,Nat.reduceAdd,isC,yC,yB,yA,h4,le_17]
       refine ret_data ?_
       simp -implicitDefEqProofs only [rX,↓rY,↓reduceIte,Nat.reduceEqDiff,Nat.reduceAdd,resP,tupV,wfV,wfL,yB,yA]
       simp [Gv, tupV, gvV, gvL, wk, wkL, wkR, wfV, wfL]
      | false =>
       simp -implicitDefEqProofs only [rX,↓rY,↓reduceIte,Nat.reduceEqDiff,yA,h4,le_17,le_19]
       refine call_is (ok52 L.serial) ⟨⟨trivial, trivial⟩, rfl, trivial⟩ rfl trivial ?_
       cases h5 : countsB L.serial with
       | false =>
        obtain ⟨e1, e2⟩ := hno (by unfold outL; rw [h1, h2, h3, h4, h5]; rfl)
        rw [e1, e2]
        simp -implicitDefEqProofs only [rX,↓rY,ofConst,cells?,splice,↓reduceIte,Nat.reduceEqDiff,Nat.reduceAdd,isC,yC,yB,yA]
        refine ret_data ?_
        simp -implicitDefEqProofs only [rX,↓rY,↓reduceIte,Nat.reduceEqDiff,Nat.reduceAdd,resP,tupV,wfV,wfL,yB,yA]
        simp [Gv, tupV, gvV, gvL, wk, wkL, wkR, wfV, wfL]
       | true =>
        simp -implicitDefEqProofs only [rX,↓rY,↓reduceIte,Nat.reduceEqDiff,le_20]
        refine call_is (ok71 L.uses) ⟨⟨trivial, trivial⟩, ⟨rfl, rfl⟩, trivial⟩ rfl trivial ?_
        cases h6 : decide (L.uses.length = 0) with
        | false =>
         obtain ⟨e1, e2⟩ := hno (by rw [hrt, h6]; simp)
         rw [e1, e2]
         simp -implicitDefEqProofs only [rX,↓rY,ofConst,cells?,splice,↓reduceIte,Nat.reduceEqDiff,Nat.reduceAdd,isC,yC,yB,yA]
         refine ret_data ?_
         simp -implicitDefEqProofs only [rX,↓rY,↓reduceIte,Nat.reduceEqDiff,Nat.reduceAdd,resP,tupV,wfV,wfL,yB,yA]
         simp [Gv, tupV, gvV, gvL, wk, wkL, wkR, wfV, wfL]
        | true =>
         have hgo : ¬ (outL p L || !rightL L) = true := by rw [hrt, h6]; unfold outL; rw [h1, h2, h3, h4, h5]; simp
         simp -implicitDefEqProofs only [rX,↓rY,↓reduceIte,Nat.reduceEqDiff,Nat.reduceAdd,yB,yA,l_len,l_t]
         have hA : hearA p L = (ackP p L, 0) := by unfold hearA; rw [if_neg hgo, if_neg hk1]
         have e : ansN p L 0 = [] := if_pos rfl
         rw [hA, e]
         refine call_is (ok72 p L hm2.mks (by omega) ho) pl_lend rfl trivial ?_
         generalize ackP p L = r
         have h0 : ((0 : Int) == 0) = true := rfl
         simp -implicitDefEqProofs only [rX,↓rY,rdK,ofConst,cells?,splice,↓reduceIte,Nat.reduceEqDiff,Nat.reduceAdd,reduceCtorEq,freshP,buildP,litsP,isC,Nat.reduceLT,Nat.reduceLeDiff,yC,yB,yA,h0,le_17]
         refine ret_data ?_
         simp -implicitDefEqProofs only [rX,↓rY,↓reduceIte,Nat.reduceEqDiff,Nat.reduceAdd,resP,tupV,wfV,wfL,yB,yA]
         simp [Gv, tupV, gvV, gvL, wk, wkL, wkR, wfV, wfL]
  ·have hov : ofV L.kind = .tup [.agg [.v .nilFunc, .v .nilFunc], .b false] := by unfold ofV; rw [if_neg hk1, if_neg hk2]
   have hrt : rightL L = false := by unfold rightL; rw [if_neg hk1, if_neg hk2]
   obtain ⟨e1, e2⟩ := hno (by rw [hrt]; simp)
   rw [e1, e2, hov]
   simp -implicitDefEqProofs only [rX,↓rY,ofConst,cells?,splice,↓reduceIte,Nat.reduceEqDiff,Nat.reduceAdd,freshP,isC,yC,yB,yA]
   refine ret_data ?_
   simp -implicitDefEqProofs only [rX,↓rY,↓reduceIte,Nat.reduceEqDiff,Nat.reduceAdd,resP,tupV,wfV,wfL,yB,yA]
   simp [Gv, tupV, gvV, gvL, wk, wkL, wkR, wfV, wfL]
end Go.Fx.O
namespace Go.Fx.O
open Go Go.Fx Go.Proofs Go.Fx.R
set_option maxRecDepth 20000
theorem ok18 (p : Purse) (L : Ltr) (hl : Vd p.left) (hs : Vd p.spent) (hm : MkOk p.heard p.me) (hm2 : MkOk p.sent p.me) (ho : p.out.length ≤ 1000000) : Ok 18 [.agg p.enc, .agg L.enc] (Is (.tup [.agg (hearA p L).1.enc, ltrs (ansL p L (hearA p L).2)])) :=
 okN_dp (raw18 p L hl hs hm hm2 ho) (.inr (.inr ⟨_, _, rfl, rfl, ⟨.inl rfl, ans_dp, trivial⟩⟩))
end Go.Fx.O
namespace Go.Fx.O
open Go Go.Fx Go.Proofs Go.Fx.R
set_option maxRecDepth 20000
theorem ok15e (l : List Ltr) : Ok 15 [ltrs l, ltrs l] (Is (.b true)) := by
 refine ok_of lw15 (by simp) ?_
 unfold c15
 simp -implicitDefEqProofs only [rX,↓rY,ofConst,↓reduceIte,Nat.reduceEqDiff,reduceCtorEq,cxN,yA,args0,bne_self_eq_false]
 intro hm _
 refine loopP_intro (fun k : Nat => ⟨[(5, .i k), (0, ltrs l), (1, ltrs l)], [], 0⟩) (fun k => k ≤ l.length) (fun k => l.length - k) 0 (by omega) ?_ ?_
 ·simp -implicitDefEqProofs only [rX,↓reduceIte,Nat.reduceEqDiff,reduceCtorEq,leE,leH,keepP,wfE,wfB,wfV,yF]
 rintro k hk
 unfold c15l0
 rcases yI k l.length with hk' | hk'
 ·have hd : decide ((k : Int) < (l.length : Int)) = true := decide_eq_true (by omega)
  have hkk : (0 : Int) ≤ k ∧ (k : Int) < l.length := ⟨by omega, by omega⟩
  simp -implicitDefEqProofs only [rX,↓rY,ofConst,cells?,splice,↓reduceIte,Nat.reduceEqDiff,Nat.reduceAdd,reduceCtorEq,freshP,resP,tupV,wfV,Nat.reduceLeDiff,zc21,yC,yA,hd,bne_self_eq_false,l_len,l_C,l_t,le_16,le_17,le_18,le_19,le_20]
  refine fun _ => ⟨hkk, hk', hkk, hk', ?_⟩
  refine Eq.mpr (eq_dig (d := l[k].id) (e := l[k].id)) ?_
  rw [show (l[k].id == l[k].id) = true from beq_self_eq_true _]
  simp -implicitDefEqProofs only [rX,↓rY]
  refine call_is (ok20 l[k].uses l[k].uses) ⟨⟨trivial, trivial, trivial⟩, ⟨rfl, rfl⟩, ⟨rfl, rfl⟩, trivial⟩ rfl trivial ?_
  simp -implicitDefEqProofs only [rX,↓rY,ofConst,↓reduceIte,Nat.reduceEqDiff,Nat.reduceAdd,reduceCtorEq,leE,leH,keepP,wfE,wfB,wfV,yA,beq_self_eq_true]
  exact ⟨by simp only [lo, hi, maxLen] at *; omega, k + 1, ⟨by omega, by omega⟩, by simp⟩
 have hd : decide ((k : Int) < (l.length : Int)) = false := decide_eq_false (by omega)
 simp -implicitDefEqProofs only [rX,↓rY,ofConst,↓reduceIte,Nat.reduceEqDiff,reduceCtorEq,resP,tupV,wfV,hd]
 exact fun _ => trivial
end Go.Fx.O
namespace Go.Fx.O
open Go Go.Fx Go.Proofs Go.Fx.R
set_option maxRecDepth 20000
def selG (p q : Purse) (g : Gift) : Bool := (g.to == q.me) && decide (markOf q.heard p.me < g.serial)
def flyStep (p q : Purse) (a : List Sp × Bool) (g : Gift) : List Sp × Bool := if selG p q g then (bothS a.1 g.uses, a.2 && decide ((meetS a.1 g.uses).length = 0)) else a
def flyF (p q : Purse) (l : List Gift) : List Sp × Bool := l.foldl (flyStep p q) ([], true)
def flyP (p q : Purse) : List Sp × Bool := if (!(p.id == q.id) || p.me == q.me) = true then ([], true) else flyF p q p.out
theorem flyF_step {p q : Purse} {l : List Gift} {k : Nat} (hk : k < l.length) : flyF p q (l.take (k + 1)) = flyStep p q (flyF p q (l.take k)) l[k] := by
 unfold flyF
 rw [yT, yU hk, vP]
 rfl
theorem flyF_vd {p q : Purse} : ∀ {l : List Gift}, (∀ g ∈ l, Vd g.uses) → ∀ {a : List Sp × Bool}, Vd a.1 → Vd (l.foldl (flyStep p q) a).1
 | [], _, _, ha => ha
 | g :: l, h, a, ha => by
  rw [yX]
  refine flyF_vd (fun t ht => h t (by simp [ht])) ?_
  unfold flyStep
  split
  ·exact ha.both (h g (by simp)).2
  ·exact ha
theorem p_le {p : Purse} : leVs p.enc p.enc := by simp [leVs, leV]
theorem ok55 (p q : Purse) (hu : ∀ g ∈ p.out, Vd g.uses) (hm : Mks q.heard) (hml : q.heard.length ≤ 1000000) : Ok 55 [.agg p.enc, .agg q.enc] (Is (.tup [spans (flyP p q).1, .b (flyP p q).2])) := by
 refine okN_gv ?_
 refine ok_of lw55 (by simp) ?_
 unfold c55
 simp -implicitDefEqProofs only [rX,↓rY,ofConst,cells?,↓reduceIte,Nat.reduceEqDiff,Nat.reduceAdd,reduceCtorEq,freshP,Nat.reduceLeDiff,cxN,yB,yA,args0]
 refine Eq.mpr (eq_dig (d := p.id) (e := q.id)) ?_
 cases h1 : p.id == q.id with
 | false =>
  rw [show flyP p q = ([], true) by unfold flyP; rw [h1]; rfl]
  simp -implicitDefEqProofs only [rX,↓rY]
  refine ret_data ?_
  simp -implicitDefEqProofs only [rX,↓reduceIte,Nat.reduceEqDiff,resP,tupV,wfV,wfL,yA]
  simp [Gv, tupV, gvV, gvL, wk, wkL, wkR, wfV, wfL]
 | true =>
  cases h2 : p.me == q.me with
  | true =>
   rw [show flyP p q = ([], true) by unfold flyP; rw [h1, h2]; rfl]
   simp -implicitDefEqProofs only [rX,↓rY]
   refine ret_data ?_
   simp -implicitDefEqProofs only [rX,↓reduceIte,Nat.reduceEqDiff,resP,tupV,wfV,wfL,yA]
   simp [Gv, tupV, gvV, gvL, wk, wkL, wkR, wfV, wfL]
  | false =>
   rw [show flyP p q = flyF p q p.out by unfold flyP; rw [h1, h2]; rfl]
   simp -implicitDefEqProofs only [rX,↓rY]
   refine call_is (ok40 q.heard p.me hm hml) ⟨⟨trivial, trivial, trivial⟩, ⟨rfl, rfl⟩, rfl, trivial⟩ rfl trivial ?_
   simp -implicitDefEqProofs only [rX,↓rY,ofConst,↓reduceIte,Nat.reduceEqDiff,Nat.reduceAdd]
   intro hmx
   refine loopP_ghost (.virt 1 2 (by decide) (.nilE 4 2 rfl (.give (fun j => j == 2) (by simp) (.refl _)))) (fun k : Nat => ⟨[(29, .i k), (28, .i p.out.length), (27, gifts p.out), (6, .i (markOf q.heard p.me)), (5, .b (flyF p q (p.out.take k)).2), (4, spans (flyF p q (p.out.take k)).1), (3, .ptr 1 0 0), (2, .ptr 0 0 0)], [.var p.enc, .var q.enc], 2⟩) (fun k => k ≤ p.out.length) (fun k => p.out.length - k) 0 (by omega) ?_ ?_
   ·simp -implicitDefEqProofs only [rX,↓reduceIte,Nat.reduceEqDiff,Nat.reduceAdd,leE,leH,leB,keepP,liveP,wfE,wfB,wfV,wfL,yF,yP,St.give,gvE,gvV,gvL,gvH,gvB,flyF,vH]
    exact ⟨⟨rfl, rfl, rfl⟩, p_le, p_le⟩
   rintro k hk
   have hvd : Vd (flyF p q (p.out.take k)).1 := flyF_vd (fun g hg => hu g (vR hg)) vd_nil
   unfold c55l0
   rcases yI k p.out.length with hk' | hk'
   ·have hd : decide ((k : Int) < (p.out.length : Int)) = true := decide_eq_true (by omega)
    have hkk : (0 : Int) ≤ k ∧ (k : Int) < p.out.length := ⟨by omega, by omega⟩
    have hug := hu _ (yH hk')
    have hst := flyF_step (p := p) (q := q) hk'
    cases g1 : p.out[k].to == q.me with
    | false =>
     rw [show flyStep p q (flyF p q (p.out.take k)) p.out[k] = flyF p q (p.out.take k) by unfold flyStep selG; rw [g1]; rfl] at hst
     simp -implicitDefEqProofs only [rX,↓rY,ofConst,cells?,splice,↓reduceIte,Nat.reduceEqDiff,Nat.reduceAdd,freshP,leE,leH,leB,leV,leVs,keepP,liveP,wfE,wfB,wfV,wfL,yC,yA,hd,g1,g_len,g_0,g_1,g_2,g_C,g_t]
     exact ⟨hkk, hk', by simp only [lo, hi, maxLen] at *; omega, k + 1, ⟨by omega, by omega⟩, by simp, by rw [hst], by rw [hst]⟩
    | true =>
     cases g2 : decide (markOf q.heard p.me < p.out[k].serial) with
     | false =>
      rw [show flyStep p q (flyF p q (p.out.take k)) p.out[k] = flyF p q (p.out.take k) by unfold flyStep selG; rw [g1, g2]; rfl] at hst
      simp -implicitDefEqProofs only [rX,↓rY,ofConst,cells?,splice,↓reduceIte,Nat.reduceEqDiff,Nat.reduceAdd,freshP,leE,leH,leB,leV,leVs,keepP,liveP,wfE,wfB,wfV,wfL,yC,yA,hd,g1,g2,g_len,g_0,g_1,g_2,g_C,g_t]
      exact ⟨hkk, hk', by simp only [lo, hi, maxLen] at *; omega, k + 1, ⟨by omega, by omega⟩, by simp, by rw [hst], by rw [hst]⟩
     | true =>
      rw [show flyStep p q (flyF p q (p.out.take k)) p.out[k] = (bothS (flyF p q (p.out.take k)).1 p.out[k].uses, (flyF p q (p.out.take k)).2 && decide ((meetS (flyF p q (p.out.take k)).1 p.out[k].uses).length = 0)) by unfold flyStep selG; rw [g1, g2]; rfl] at hst
      cases g3 : (flyF p q (p.out.take k)).2 with
      | false =>
       rw [g3] at hst
       simp -implicitDefEqProofs only [rX,↓rY,ofConst,cells?,splice,↓reduceIte,Nat.reduceEqDiff,Nat.reduceAdd,freshP,leE,leH,leB,leV,leVs,keepP,liveP,wfE,wfB,wfV,wfL,yC,yA,hd,g1,g2,g_len,g_0,g_1,g_2,g_C,g_t]
       refine ⟨hkk, hk', ?_⟩
       refine call_is (ok39 _ p.out[k].uses hvd hug.2) ⟨⟨trivial, trivial, trivial⟩, ⟨rfl, rfl⟩, ⟨rfl, rfl⟩, trivial⟩ rfl trivial ?_
       simp -implicitDefEqProofs only [rX,↓rY,ofConst,↓reduceIte,Nat.reduceEqDiff,Nat.reduceAdd,leE,leH,leB,leV,leVs,keepP,liveP,wfE,wfB,wfV,wfL,yA]
       exact ⟨by simp only [lo, hi, maxLen] at *; omega, k + 1, ⟨by omega, by omega⟩, by simp, by rw [hst]; rfl, by rw [hst]⟩
      | true =>
       rw [g3] at hst
       simp -implicitDefEqProofs only [rX,↓rY,ofConst,cells?,splice,↓reduceIte,Nat.reduceEqDiff,Nat.reduceAdd,freshP,leE,leH,leB,leV,leVs,keepP,liveP,wfE,wfB,wfV,wfL,yC,yA,hd,g1,g2,g_len,g_0,g_1,g_2,g_C,g_t]
       refine ⟨hkk, hk', ?_⟩
       refine call_is (ok57 _ p.out[k].uses hvd hug) ⟨⟨trivial, trivial, trivial⟩, ⟨rfl, rfl⟩, ⟨rfl, rfl⟩, trivial⟩ rfl trivial ?_
       simp -implicitDefEqProofs only [rX,↓rY,↓reduceIte,Nat.reduceEqDiff,Nat.reduceAdd,g_2]
       refine call_is (ok39 _ p.out[k].uses hvd hug.2) ⟨⟨trivial, trivial, trivial⟩, ⟨rfl, rfl⟩, ⟨rfl, rfl⟩, trivial⟩ rfl trivial ?_
       simp -implicitDefEqProofs only [rX,↓rY,ofConst,↓reduceIte,Nat.reduceEqDiff,Nat.reduceAdd,leE,leH,leB,leV,leVs,keepP,liveP,wfE,wfB,wfV,wfL,yA]
       exact ⟨by simp only [lo, hi, maxLen] at *; omega, k + 1, ⟨by omega, by omega⟩, by simp, by rw [hst]; rfl, by rw [hst]⟩
   ·have hd : decide ((k : Int) < (p.out.length : Int)) = false := decide_eq_false (by omega)
    rw [yD hk'] at *
    simp -implicitDefEqProofs only [rX,↓rY,↓reduceIte,Nat.reduceEqDiff,Nat.reduceAdd,yA,hd]
    refine ret_data ?_
    simp -implicitDefEqProofs only [rX,↓reduceIte,Nat.reduceEqDiff,resP,tupV,wfV,wfL,yA]
    simp [Gv, tupV, gvV, gvL, wk, wkL, wkR, wfV, wfL]
theorem ok21 (p q : Purse) (hu : ∀ g ∈ p.out, Vd g.uses) (hm : Mks q.heard) (hml : q.heard.length ≤ 1000000) : Ok 21 [.agg p.enc, .agg q.enc] (Is (spans (flyP p q).1)) := by
 refine ok_of lw21 (by simp) ?_
 unfold c21
 simp -implicitDefEqProofs only [rX,↓rY,ofConst,cells?,↓reduceIte,Nat.reduceEqDiff,Nat.reduceAdd,reduceCtorEq,freshP,cxN,yB,yA,args0]
 refine call_is (ok55 p q hu hm hml) (by simp [lendsOk, lendOk, lends, lend, wkL, wk, wkR]) rfl trivial ?_
 simp -implicitDefEqProofs only [rX,↓rY,↓reduceIte,Nat.reduceEqDiff,Nat.reduceAdd,resP,tupV,wfV]
end Go.Fx.O
namespace Go.Fx.O
open Go Go.Fx Go.Proofs Go.Fx.R
set_option maxRecDepth 20000
abbrev purses (l : List Purse) : V := .ro 22 (l.map Purse.enc)
def putS (a : List Sp × Bool) (l : List Sp) : List Sp × Bool := (bothS a.1 l, a.2 && decide ((meetS a.1 l).length = 0))
def kq (p : Purse) (a : List Sp × Bool) (q : Purse) : List Sp × Bool := putS (a.1, a.2 && (flyP p q).2) (flyP p q).1
def kp (all : List Purse) (a : List Sp × Bool) (p : Purse) : List Sp × Bool := all.foldl (kq p) (putS (putS a p.left) p.spent)
def knownF (all : List Purse) : List Sp × Bool := all.foldl (kp all) ([], true)
theorem ok56 (l : List Sp) (a : List Sp × Bool) (hl : Vd l) (ha : Vd a.1) : OkN Tryz.prog 56 [spans l, .ptr 0 0 0, .ptr 1 0 0] [.var [.b a.2], .var [spans a.1]] [] (IsA (.tup []) [.var [.b (putS a l).2], .var [spans (putS a l).1]]) := by
 refine okN_of pol [0, 1] lw56 (by simp) ⟨trivial, trivial, trivial⟩ (by simp; omega) ?_
 unfold c56
 cases h : a.2 with
 | true =>
  simp -implicitDefEqProofs only [rX,↓rY,↓reduceIte,Nat.reduceEqDiff,Nat.reduceAdd,reduceCtorEq,cxN,args0]
  refine call_is (ok57 a.1 l ha hl) ⟨⟨trivial, trivial, trivial⟩, ⟨rfl, rfl⟩, ⟨rfl, rfl⟩, trivial⟩ rfl (by simp [keepP, liveP]) ?_
  simp -implicitDefEqProofs only [rX,↓rY,cells?,splice,↓reduceIte,Nat.reduceEqDiff,Nat.reduceAdd,reduceCtorEq,isC,yC,yA]
  refine call_is (ok39 a.1 l ha hl.2) ⟨⟨trivial, trivial, trivial⟩, ⟨rfl, rfl⟩, ⟨rfl, rfl⟩, trivial⟩ rfl (by simp [keepP, liveP]) ?_
  simp -implicitDefEqProofs only [rX,↓rY,cells?,splice,↓reduceIte,Nat.reduceEqDiff,Nat.reduceAdd,reduceCtorEq,resP,tupV,leH,leB,leV,leVs,keepP,liveP,wfB,wfV,wfL,isC,yC,yA,retP_isA,putS,h]
 | false =>
  simp -implicitDefEqProofs only [rX,↓rY,ofConst,cells?,splice,↓reduceIte,Nat.reduceEqDiff,Nat.reduceAdd,reduceCtorEq,isC,cxN,yC,yA,args0]
  refine call_is (ok39 a.1 l ha hl.2) ⟨⟨trivial, trivial, trivial⟩, ⟨rfl, rfl⟩, ⟨rfl, rfl⟩, trivial⟩ rfl (by simp [keepP, liveP]) ?_
  simp -implicitDefEqProofs only [rX,↓rY,cells?,splice,↓reduceIte,Nat.reduceEqDiff,Nat.reduceAdd,reduceCtorEq,resP,tupV,leH,leB,leV,leVs,keepP,liveP,wfB,wfV,wfL,isC,yC,yA,retP_isA,putS,h]
  rfl
structure PurV (p : Purse) : Prop where
 l : Vd p.left
 s : Vd p.spent
 u : ∀ g ∈ p.out, Vd g.uses
 m : Mks p.heard
 n : p.heard.length ≤ 1000000
theorem PurV.fly {p q : Purse} (hp : PurV p) : Vd (flyP p q).1 := by
 unfold flyP
 split
 ·exact vd_nil
 ·exact flyF_vd hp.u vd_nil
theorem putS_vd {a : List Sp × Bool} {l : List Sp} (ha : Vd a.1) (hl : Vd l) : Vd (putS a l).1 := ha.both hl.2
theorem kq_vd {p : Purse} (hp : PurV p) : ∀ {l : List Purse} {a : List Sp × Bool}, Vd a.1 → Vd (l.foldl (kq p) a).1
 | [], _, h => h
 | q :: l, a, h => by
  rw [yX]
  exact kq_vd hp (putS_vd (a := (a.1, a.2 && (flyP p q).2)) h hp.fly)
theorem kp_vd {all : List Purse} : ∀ {l : List Purse} (_ : ∀ p ∈ l, PurV p) {a : List Sp × Bool}, Vd a.1 → Vd (l.foldl (kp all) a).1
 | [], _, _, h => h
 | p :: l, hp, a, h => by
  rw [yX]
  have hpp := hp p (by simp)
  exact kp_vd (fun q hq => hp q (by simp [hq])) (kq_vd hpp (putS_vd (putS_vd h hpp.l) hpp.s))
theorem foldl_take {α β : Type} {f : β → α → β} {b : β} {l : List α} {k : Nat} (h : k < l.length) : (l.take (k + 1)).foldl f b = f ((l.take k).foldl f b) l[k] := by
 rw [yT, yU h, vP]; rfl
theorem r_sp {f : Nat → Option Nat} {l : List Sp} : rens f [spans l] = [spans l] := rfl
theorem r_b {f : Nat → Option Nat} {x : Bool} : rens f [.b x] = [.b x] := rfl
theorem ok25 (all : List Purse) (hv : ∀ p ∈ all, PurV p) : Ok 25 [purses all] (Is (.tup [spans (knownF all).1, .b (knownF all).2])) := by
 refine okN_gv ?_
 refine ok_of lw25 (by simp) ?_
 unfold c25
 simp -implicitDefEqProofs only [rX,↓rY,ofConst,cells?,splice,↓reduceIte,Nat.reduceEqDiff,Nat.reduceAdd,reduceCtorEq,freshP,isC,cxN,yC,yA,args0]
 intro hm
 refine loopP_ghost (.virt 1 2 (by decide) (.nilB 0 [.nil] [.sl 2 0 0] rfl ⟨rfl, fun i x y h1 h2 => by
  cases i with
  | zero => simp at h1 h2; subst h1 h2; exact .inr ⟨rfl, 2, rfl⟩
  | succ i => simp at h1⟩ (.give (fun j => j == 2) (by simp) (.refl _)))) (fun k : Nat => ⟨[(16, .i k), (15, .i all.length), (14, purses all), (6, .clo 56 [.ptr 1 0 0, .ptr 0 0 0]), (5, .ptr 1 0 0), (4, .ptr 0 0 0), (0, purses all)], [.var [spans ((all.take k).foldl (kp all) ([], true)).1], .var [.b ((all.take k).foldl (kp all) ([], true)).2]], 2⟩) (fun k => k ≤ all.length) (fun k => all.length - k) 0 (by omega) ?_ ?_
 ·simp -implicitDefEqProofs only [rX,↓reduceIte,Nat.reduceEqDiff,Nat.reduceAdd,reduceCtorEq,leE,leH,leB,keepP,liveP,wfE,wfB,wfV,wfL,yF,yP,St.give,gvE,gvV,gvL,gvH,gvB,vH]
  exact ⟨⟨rfl, rfl, rfl⟩, ⟨rfl, trivial⟩, rfl, trivial⟩
 rintro k hk
 have hvd : Vd ((all.take k).foldl (kp all) ([], true)).1 := kp_vd (fun g hg => hv g (vR hg)) vd_nil
 unfold c25l0
 rcases yI k all.length with hk' | hk'
 ·have hd : decide ((k : Int) < (all.length : Int)) = true := decide_eq_true (by omega)
  have hkk : (0 : Int) ≤ k ∧ (k : Int) < all.length := ⟨by omega, by omega⟩
  have hpk := hv _ (yH hk')
  have hst := foldl_take (f := kp all) (b := (([], true) : List Sp × Bool)) hk'
  generalize (all.take k).foldl (kp all) ([], true) = a at hvd hst ⊢
  simp -implicitDefEqProofs only [rX,↓rY,ofConst,cells?,splice,↓reduceIte,Nat.reduceEqDiff,Nat.reduceAdd,freshP,isC,zc22,yC,yB,yA,hd]
  refine ⟨hkk, hk', ?_⟩
  refine call_isN [1, 0] [spans all[k].left, .ptr 0 0 0, .ptr 1 0 0] (.tup []) (.tup []) [.var [.b a.2], .var [spans a.1]] [.var [.b (putS a all[k].left).2], .var [spans (putS a all[k].left).1]] _ (ok56 all[k].left a hpk.l hvd) ⟨by simp, by simp⟩ rfl ?_ (by simp) rfl rfl ?_ ?_
  ·simp [lendsOk, lendOk, lends, lend, wkL, wk, wkR, pos]
  ·trivial
  simp -implicitDefEqProofs only [rX,↓rY,↓reduceIte,Nat.reduceEqDiff,Nat.reduceAdd,setAll,renB,r_sp,r_b]
  have hvd1 := putS_vd hvd hpk.l
  generalize ha1 : putS a all[k].left = a1 at hvd1 ⊢
  refine call_isN [1, 0] [spans all[k].spent, .ptr 0 0 0, .ptr 1 0 0] (.tup []) (.tup []) [.var [.b a1.2], .var [spans a1.1]] [.var [.b (putS a1 all[k].spent).2], .var [spans (putS a1 all[k].spent).1]] _ (ok56 all[k].spent a1 hpk.s hvd1) ⟨by simp, by simp⟩ rfl ?_ (by simp) rfl rfl ?_ ?_
  ·simp [lendsOk, lendOk, lends, lend, wkL, wk, wkR, pos]
  ·trivial
  simp -implicitDefEqProofs only [rX,↓rY,ofConst,↓reduceIte,Nat.reduceAdd,reduceCtorEq,setAll,renB,r_sp,r_b]
  have hvd2 := putS_vd hvd1 hpk.s
  generalize ha2 : putS a1 all[k].spent = a2 at hvd2 ⊢
  have hkp : kp all a all[k] = all.foldl (kq all[k]) a2 := by unfold kp; rw [ha1, ha2]
  intro hm2
  refine loopP_intro (fun j : Nat => ⟨[(30, .i j), (29, .i all.length), (28, purses all), (8, .ptr 2 0 0), (17, V.b true), (16, V.i ↑k), (15, V.i ↑all.length), (14, purses all), (6, V.clo 56 [V.ptr 1 0 0, V.ptr 0 0 0]), (5, V.ptr 1 0 0), (4, V.ptr 0 0 0), (0, purses all)], [.var [spans ((all.take j).foldl (kq all[k]) a2).1], .var [.b ((all.take j).foldl (kq all[k]) a2).2], .var all[k].enc], 3⟩) (fun j => j ≤ all.length) (fun j => all.length - j) 0 (by omega) ?_ ?_
  ·simp -implicitDefEqProofs only [rX,↓reduceIte,Nat.reduceEqDiff,reduceCtorEq,leE,leH,leB,leV,leVs,keepP,liveP,wfE,wfB,wfV,wfL,yF,vH]
  rintro j hj
  have hvj : Vd ((all.take j).foldl (kq all[k]) a2).1 := kq_vd hpk hvd2
  unfold c25l1
  rcases yI j all.length with hj' | hj'
  ·have hd2 : decide ((j : Int) < (all.length : Int)) = true := decide_eq_true (by omega)
   have hjj : (0 : Int) ≤ j ∧ (j : Int) < all.length := ⟨by omega, by omega⟩
   have hpj := hv _ (yH hj')
   have hsj := foldl_take (f := kq all[k]) (b := a2) hj'
   generalize (all.take j).foldl (kq all[k]) a2 = c at hvj hsj ⊢
   simp -implicitDefEqProofs only [rX,↓rY,ofConst,cells?,splice,↓reduceIte,Nat.reduceEqDiff,Nat.reduceAdd,freshP,isC,zc22,yC,yB,yA,hd2]
   refine ⟨hjj, hj', ?_⟩
   refine call_is (ok55 all[k] all[j] hpk.u hpj.m hpj.n) (by simp [lendsOk, lendOk, lends, lend, wkL, wk, wkR]) rfl trivial ?_
   have hput := putS_vd (a := (c.1, c.2 && (flyP all[k] all[j]).2)) hvj (hpk.fly (q := all[j]))
   have h56 := ok56 (flyP all[k] all[j]).1 (c.1, c.2 && (flyP all[k] all[j]).2) (hpk.fly (q := all[j])) hvj
   have hkq : kq all[k] c all[j] = putS (c.1, c.2 && (flyP all[k] all[j]).2) (flyP all[k] all[j]).1 := rfl
   rw [hkq] at hsj
   generalize flyP all[k] all[j] = f at *
   cases hc2 : c.2 with
   | true =>
    simp -implicitDefEqProofs only [rX,↓rY,cells?,splice,↓reduceIte,Nat.reduceEqDiff,Nat.reduceAdd,isC,yC,yA]
    have hcb : (c.2 && f.2) = f.2 := by rw [hc2]; simp
    rw [hcb] at h56 hsj hput
    refine call_isN [1, 0] [spans f.1, .ptr 0 0 0, .ptr 1 0 0] (.tup []) (.tup []) [.var [.b f.2], .var [spans c.1]] [.var [.b (putS (c.1, f.2) f.1).2], .var [spans (putS (c.1, f.2) f.1).1]] _ h56 ⟨by simp, by simp⟩ rfl ?_ (by simp) rfl rfl ?_ ?_
    ·simp [lendsOk, lendOk, lends, lend, wkL, wk, wkR, pos]
    ·trivial
    simp -implicitDefEqProofs only [rX,↓rY,ofConst,↓reduceIte,Nat.reduceEqDiff,Nat.reduceAdd,reduceCtorEq,leE,leH,leB,leV,leVs,keepP,liveP,wfE,wfB,wfV,wfL,yA,setAll,renB,r_sp,r_b]
    exact ⟨by simp only [lo, hi, maxLen] at *; omega, j + 1, ⟨by omega, by omega⟩, by simp, by rw [hsj], by rw [hsj]⟩
   | false =>
    simp -implicitDefEqProofs only [rX,↓rY,ofConst,cells?,splice,↓reduceIte,Nat.reduceEqDiff,Nat.reduceAdd,isC,yC,yA]
    have hcb : (c.2 && f.2) = false := by rw [hc2]; simp
    rw [hcb] at h56 hsj hput
    refine call_isN [1, 0] [spans f.1, .ptr 0 0 0, .ptr 1 0 0] (.tup []) (.tup []) [.var [.b false], .var [spans c.1]] [.var [.b (putS (c.1, false) f.1).2], .var [spans (putS (c.1, false) f.1).1]] _ h56 ⟨by simp, by simp⟩ rfl ?_ (by simp) rfl rfl ?_ ?_
    ·simp [lendsOk, lendOk, lends, lend, wkL, wk, wkR, pos]
    ·trivial
    simp -implicitDefEqProofs only [rX,↓rY,ofConst,↓reduceIte,Nat.reduceEqDiff,Nat.reduceAdd,reduceCtorEq,leE,leH,leB,leV,leVs,keepP,liveP,wfE,wfB,wfV,wfL,yA,setAll,renB,r_sp,r_b]
    exact ⟨by simp only [lo, hi, maxLen] at *; omega, j + 1, ⟨by omega, by omega⟩, by simp, by rw [hsj], by rw [hsj]⟩
  ·have hd2 : decide ((j : Int) < (all.length : Int)) = false := decide_eq_false (by omega)
   rw [yD hj'] at *
   simp -implicitDefEqProofs only [rX,↓rY,ofConst,↓reduceIte,Nat.reduceEqDiff,Nat.reduceAdd,reduceCtorEq,leE,leH,leB,leV,leVs,keepP,liveP,wfE,wfB,wfV,wfL,yA,hd2]
   rw [← hkp] at *
   exact ⟨by simp only [lo, hi, maxLen] at *; omega, k + 1, ⟨by omega, by omega⟩, by simp, by rw [hst], by rw [hst]⟩
 ·have hd : decide ((k : Int) < (all.length : Int)) = false := decide_eq_false (by omega)
  rw [yD hk'] at *
  simp -implicitDefEqProofs only [rX,↓rY,↓reduceIte,Nat.reduceEqDiff,Nat.reduceAdd,yA,hd]
  refine ret_data ?_
  simp -implicitDefEqProofs only [rX,↓reduceIte,Nat.reduceEqDiff,resP,tupV,wfV,wfL,yA]
  simp [Gv, tupV, gvV, gvL, wk, wkL, wkR, wfV, wfL, knownF]
end Go.Fx.O
namespace Go.Fx.O
open Go Go.Fx Go.Proofs Go.Fx.R
set_option maxRecDepth 20000
theorem ok27 (x y : Int) (hy : -1000000 ≤ y ∧ y ≤ 1000000) : Ok 27 [.i x, .i y] (Is (spans [(x, y + 1)])) := by
 refine okN_gv ?_
 refine ok_of lw27 (by simp) ?_
 unfold c27
 simp -implicitDefEqProofs only [rX,↓rY,ofConst,cells?,splice,↓reduceIte,Nat.reduceEqDiff,Nat.reduceAdd,reduceCtorEq,freshP,buildP,litsP,isD,Nat.reduceLT,Nat.reduceLeDiff,cxN,yC,yB,yA,args0]
 refine ⟨by simp only [lo, hi]; omega, ?_⟩
 exact ret_sl (els := [enS (x, y + 1)]) rfl rfl rfl
def id7 : Dig := ⟨7, 0, 0, 0, 0, 0, 0, 0, 0, 0, 0, 0, 0, 0, 0, 0⟩
def sa0 : Purse := ⟨id7, 0, [(1, 6)], [], [], [], []⟩
def sb0 : Purse := ⟨id7, 1, [], [], [], [], []⟩
def sa1 : Purse := ⟨id7, 0, [(3, 6)], [], [(1, 1)], [], [⟨1, 1, [(1, 3)]⟩]⟩
def sl0 : Ltr := ⟨id7, 1, 0, 1, 1, [(1, 3)]⟩
def sb1 : Purse := ⟨id7, 1, [(1, 3)], [], [], [(0, 1)], []⟩
def sak : Ltr := ⟨id7, 2, 1, 0, 1, []⟩
def sa2 : Purse := ⟨id7, 0, [(3, 6)], [], [(1, 1)], [], []⟩
def sb2 : Purse := ⟨id7, 1, [(2, 3)], [(1, 2)], [], [(0, 1)], []⟩
def sb3 : Purse := ⟨id7, 1, [], [(1, 3)], [], [(0, 1)], []⟩
theorem s1 : newP id7 0 5 = (sa0, 0) := by decide
theorem s2 : newP id7 1 0 = (sb0, 0) := by decide
theorem s3 : giveP sa0 1 2 = (sa1, 0) := by decide
theorem s4 : giveP sa1 1 4 = (sa1, 4) := by decide
theorem s5 : lettersP sa1 = [sl0] := by decide
theorem s6 : flyP sa1 sb0 = ([(1, 3)], true) := by decide
theorem s7 : hearA sb0 sl0 = (sb1, 1) := by decide
theorem s8 : hearA sb1 sl0 = (sb1, 1) := by decide
theorem s9 : hearA sa1 sak = (sa2, 0) := by decide
theorem s10 : spendP sb1 = (sb2, 1, 0) := by decide
theorem s11 : spendP sb2 = (sb3, 2, 0) := by decide
theorem s12 : spendP sb3 = (sb3, 0, 4) := by decide
theorem s13 : knownF [sa2, sb3] = ([(1, 6)], true) := by decide
theorem s14 : ansL sb0 sl0 1 = [sak] := by decide
theorem s15 : ansL sb1 sl0 1 = [sak] := by decide
theorem s16 : ansL sa1 sak 0 = [] := by decide
theorem vdp {l : List Sp} (h : vd l = true) : Vd l := vd_iff.1 h
theorem zc16 : yV V.v (Array.replicate 16 (Value.int .u8 0)).toList = [u0, u0, u0, u0, u0, u0, u0, u0, u0, u0, u0, u0, u0, u0, u0, u0] := rfl
theorem ge0 {x : List V} {h : yW 0 < [x].length} : [x][yW 0]'h = x := rfl
theorem n11 : (((1 : Nat) : Int) != 1) = false := rfl
theorem ss1 : (sl0.serial != 1) = false := rfl
theorem ss2 : (sak.kind != 2) = false := rfl
theorem ss3 : (sak.serial != 1) = false := rfl
theorem ok25m (all : List Purse) (hv : ∀ p ∈ all, PurV p) : OkN Tryz.prog 25 [.sl 0 0 all.length] [.arr 22 (all.map Purse.enc)] [0] (IsA (.tup [spans (knownF all).1, .b (knownF all).2]) [.dead]) := by
 have ht : yG all.length (all.map Purse.enc) = all.map Purse.enc := yD (by simp)
 exact okN_mv (xs := [.sl 0 0 all.length]) (h0 := [.arr 22 (all.map Purse.enc)]) (ok25 all hv) (by simp [gvL, gvV, wkL, wk, wkR, blk, ht])
theorem ok25Q (all : List Purse) (hv : ∀ p ∈ all, PurV p) : OkN Tryz.prog 25 [.sl 0 0 all.length] [.arr 22 (all.map Purse.enc)] [0] (IsQ (fun _ : Unit => True) (fun _ => .tup [spans (knownF all).1, .b (knownF all).2]) (fun _ => [.dead])) :=
 okN_post (ok25m all hv) fun r h ⟨h1, h2⟩ => ⟨(), trivial, h1, h2⟩
theorem r_tup {f : Nat → Option Nat} {l : List Sp} {b : Bool} : ren f (.tup [spans l, .b b]) = .tup [spans l, .b b] := rfl
theorem z1 : (((0 : Nat) : Int) == 0) = true := rfl
theorem z2 : ((sa2.out.length : Int) == 0) = true := rfl
theorem z3 : ((1 : Int) == 1) = true := rfl
theorem z4 : ((2 : Int) == 2) = true := rfl
theorem purA : PurV sa2 := ⟨vdp rfl, vdp rfl, fun g hg => by simp [sa2] at hg, (mkB_iff (me := 0) |>.1 rfl).mks, by decide⟩
theorem purB : PurV sb3 := ⟨vdp rfl, vdp rfl, fun g hg => by simp [sb3] at hg, (mkB_iff (me := 1) |>.1 rfl).mks, by decide⟩
set_option maxHeartbeats 2000000 in
theorem ok9 : Ok 9 [] (Is (.b true)) := by
 refine ok_of lw9 (by simp) ?_
 unfold c9
 simp -implicitDefEqProofs only [rX,↓rY,ofConst,cells?,splice,↓reduceIte,Nat.reduceEqDiff,Nat.reduceAdd,freshP,buildP,isC,Nat.reduceLeDiff,cxN,yC,yB,yA,args0,zc16]
 refine call_is (ok29 id7 0 5 (by decide)) (by simp [lendsOk, lendOk, lends, lend, wkL, wk, wkR, id7]) rfl trivial ?_
 rw [s1]
 simp -implicitDefEqProofs only [rX,↓rY,ofConst,cells?,splice,↓reduceIte,Nat.reduceEqDiff,Nat.reduceAdd,freshP,isC,zc22,yC,yB,yA]
 refine call_is (ok29 id7 1 0 (by decide)) (by simp [lendsOk, lendOk, lends, lend, wkL, wk, wkR, id7]) rfl trivial ?_
 rw [s2]
 simp -implicitDefEqProofs only [rX,↓rY,ofConst,cells?,splice,↓reduceIte,Nat.reduceEqDiff,Nat.reduceAdd,freshP,resP,tupV,wfV,isC,zc22,yC,yB,yA,bne_self_eq_false]
 refine call_is (ok11 sa0 1 2 (vdp rfl) (mkB_iff.1 rfl) (by decide)) (by simp [lendsOk, lendOk, lends, lend, wkL, wk, wkR]) rfl trivial ?_
 rw [s3]
 simp -implicitDefEqProofs only [rX,↓rY,ofConst,cells?,splice,↓reduceIte,Nat.reduceEqDiff,Nat.reduceAdd,isC,yC,yB,yA]
 refine call_is (ok11 sa1 1 4 (vdp rfl) (mkB_iff.1 rfl) (by decide)) (by simp [lendsOk, lendOk, lends, lend, wkL, wk, wkR]) rfl trivial ?_
 rw [s4]
 simp -implicitDefEqProofs only [rX,↓rY,↓reduceIte,Nat.reduceEqDiff,Nat.reduceAdd,yB,yA]
 refine call_is (ok16 sa1 (by decide) (by decide)) (by simp [lendsOk, lendOk, lends, lend, wkL, wk, wkR]) rfl trivial ?_
 rw [s5]
 simp -implicitDefEqProofs only [rX,↓rY,rdK,ofConst,↓reduceIte,Nat.reduceEqDiff,Nat.reduceAdd,resP,tupV,wfV,yA,bne_self_eq_false]
 refine call_is (ok27 3 5 (by decide)) (by simp [lendsOk, lendOk, lends, lend, wkL, wk, wkR]) rfl trivial ?_
 simp -implicitDefEqProofs only [rX,↓rY,↓reduceIte,Nat.reduceEqDiff]
 refine call_is (ok20 sa1.left [(3, 5 + 1)]) (by simp [lendsOk, lendOk, lends, lend, wkL, wk, wkR]) rfl trivial ?_
 rw [show (sa1.left == [(3, (5 : Int) + 1)]) = true from rfl]
 simp -implicitDefEqProofs only [rX,↓rY,rdK,ofConst,↓reduceIte,Nat.reduceEqDiff,Nat.reduceAdd,resP,tupV,wfV,yB,yA,ge0,n11,ss1,le_19]
 refine fun _ => ⟨by decide, by decide, ?_⟩
 refine call_is (ok21 sa1 sb0 (fun g hg => by simp [sa1] at hg; subst hg; exact vdp rfl) (mkB_iff (me := 1) |>.1 rfl).mks (by decide)) (by simp [lendsOk, lendOk, lends, lend, wkL, wk, wkR]) rfl trivial ?_
 rw [s6]
 simp -implicitDefEqProofs only [rX,↓rY,ofConst,↓reduceIte,Nat.reduceEqDiff]
 refine call_is (ok27 1 2 (by decide)) (by simp [lendsOk, lendOk, lends, lend, wkL, wk, wkR]) rfl trivial ?_
 simp -implicitDefEqProofs only [rX,↓rY,↓reduceIte,Nat.reduceEqDiff]
 refine call_is (ok20 [(1, 3)] [(1, 2 + 1)]) (by simp [lendsOk, lendOk, lends, lend, wkL, wk, wkR]) rfl trivial ?_
 rw [show ([(1, (3 : Int))] == [((1 : Int), (2 : Int) + 1)]) = true from rfl]
 simp -implicitDefEqProofs only [rX,↓rY,rdK,ofConst,↓reduceIte,Nat.reduceEqDiff,Nat.reduceAdd,yB,yA,ge0,l_len,l_t]
 refine ⟨by decide, by decide, ?_⟩
 refine call_is (ok18 sb0 sl0 (vdp rfl) (vdp rfl) (mkB_iff.1 rfl) (mkB_iff.1 rfl) (by decide)) pl_lend rfl trivial ?_
 rw [s7, show ansL sb0 sl0 (sb1, (1 : Int)).2 = [sak] from s14]
 simp -implicitDefEqProofs only [rX,↓rY,rdK,ofConst,cells?,splice,↓reduceIte,Nat.reduceEqDiff,Nat.reduceAdd,isC,yC,yB,yA,ge0,l_len,l_t]
 refine ⟨by decide, by decide, ?_⟩
 refine call_is (ok18 sb1 sl0 (vdp rfl) (vdp rfl) (mkB_iff.1 rfl) (mkB_iff.1 rfl) (by decide)) pl_lend rfl trivial ?_
 rw [s8, show ansL sb1 sl0 (sb1, (1 : Int)).2 = [sak] from s15]
 simp -implicitDefEqProofs only [rX,↓rY,rdK,ofConst,cells?,splice,↓reduceIte,Nat.reduceEqDiff,Nat.reduceAdd,isC,yC,yA]
 refine call_is (ok27 1 2 (by decide)) (by simp [lendsOk, lendOk, lends, lend, wkL, wk, wkR]) rfl trivial ?_
 simp -implicitDefEqProofs only [rX,↓reduceIte,Nat.reduceEqDiff]
 refine call_is (ok20 sb1.left [(1, 2 + 1)]) (by simp [lendsOk, lendOk, lends, lend, wkL, wk, wkR]) rfl trivial ?_
 rw [show (sb1.left == [((1 : Int), (2 : Int) + 1)]) = true from rfl]
 simp -implicitDefEqProofs only [rX,↓rY,↓reduceIte,Nat.reduceEqDiff]
 refine call_is (ok15e [sak]) (by simp [lendsOk, lendOk, lends, lend, wkL, wk, wkR]) rfl trivial ?_
 simp -implicitDefEqProofs only [rX,↓rY,rdK,ofConst,↓reduceIte,Nat.reduceEqDiff,Nat.reduceAdd,resP,tupV,wfV,yB,yA,ge0,n11,ss2,ss3,l_len,le_16,le_19,l_t]
 refine fun _ => ⟨by decide, by decide, by decide, by decide, by decide, by decide, ?_⟩
 refine call_is (ok18 sa1 sak (vdp rfl) (vdp rfl) (mkB_iff.1 rfl) (mkB_iff.1 rfl) (by decide)) pl_lend rfl trivial ?_
 rw [s9, show ansL sa1 sak (sa2, (0 : Int)).2 = [] from s16]
 simp -implicitDefEqProofs only [rX,↓rY,cells?,splice,↓reduceIte,Nat.reduceEqDiff,Nat.reduceAdd,isC,yC,yB,yA]
 refine call_is (ok10 sb1 (vdp rfl) (vdp rfl)) (by simp [lendsOk, lendOk, lends, lend, wkL, wk, wkR]) rfl trivial ?_
 rw [s10]
 simp -implicitDefEqProofs only [rX,↓rY,cells?,splice,↓reduceIte,Nat.reduceEqDiff,Nat.reduceAdd,isC,yC,yB,yA]
 refine call_is (ok10 sb2 (vdp rfl) (vdp rfl)) (by simp [lendsOk, lendOk, lends, lend, wkL, wk, wkR]) rfl trivial ?_
 rw [s11]
 simp -implicitDefEqProofs only [rX,↓rY,cells?,splice,↓reduceIte,Nat.reduceEqDiff,Nat.reduceAdd,isC,yC,yB,yA]
 refine call_is (ok10 sb3 (vdp rfl) (vdp rfl)) (by simp [lendsOk, lendOk, lends, lend, wkL, wk, wkR]) rfl trivial ?_
 rw [s12]
 simp -implicitDefEqProofs only [rX,↓rY,ofConst,cells?,splice,↓reduceIte,Nat.reduceEqDiff,Nat.reduceAdd,freshP,litsP,isD,isC,Nat.reduceLT,zc22,yC,yB,yA,↓op_litsf,↓frzP_n,↓frzP_c,↓frzQ_a]
 refine call_isM (fun _ : Unit => True) [4] [0] [4] [.sl 0 0 2] (fun _ => .tup [spans (knownF [sa2, sb3]).1, .b (knownF [sa2, sb3]).2]) [.arr 22 ([sa2, sb3].map Purse.enc)] (fun _ => [.dead]) (ok25Q [sa2, sb3] fun p hp => by simp at hp; rcases hp with rfl | rfl; exact purA; exact purB) (by simp) (by simp) rfl (by simp [lendsOk, lendOk, lends, lend, wkL, wk, pos]) ?_
 rintro ⟨⟩ _
 refine ⟨trivial, ?_⟩
 rw [s13]
 simp -implicitDefEqProofs only [rX,↓rY,ofConst,↓reduceIte,Nat.reduceEqDiff,Nat.reduceAdd,reduceCtorEq,resP,tupV,wfV,killE,killB,kill,kills,St.kill,yA,beq_self_eq_true,z1,z2,r_tup,setAll,renB]
 refine fun _ _ => ?_
 refine call_is (ok27 1 5 (by decide)) (by simp [lendsOk, lendOk, lends, lend, wkL, wk, wkR]) rfl trivial ?_
 simp -implicitDefEqProofs only [rX,↓rY,↓reduceIte,Nat.reduceEqDiff]
 refine call_is (ok20 [(1, 6)] [(1, 5 + 1)]) (by simp [lendsOk, lendOk, lends, lend, wkL, wk, wkR]) rfl trivial ?_
 rw [show ([(1, (6 : Int))] == [((1 : Int), (5 : Int) + 1)]) = true from rfl]
 simp -implicitDefEqProofs only [rX,↓rY,↓reduceIte,Nat.reduceEqDiff,resP,tupV,wfV]
 trace_state
end Go.Fx.O
namespace Go.Fx.O
open Go Go.Fx Go.Proofs Go.Fx.R
set_option maxRecDepth 20000
end Go.Fx.O
namespace Go.Fx.O
open Go Go.Fx Go.Proofs Go.Fx.R
set_option maxRecDepth 20000
theorem inS_lo {l : List Sp} (h : Sep l) {s : Sp} (hs : s ∈ l) : inS l s.1 := ⟨s, hs, by omega, h.1 s hs⟩
theorem inS_hi {l : List Sp} (h : Sep l) {s : Sp} (hs : s ∈ l) : inS l (s.2 - 1) := ⟨s, hs, by have := h.1 s hs; omega, by omega⟩
theorem Us.in {l : List Sp} (h : Us l) {x : Int} (hx : inS l x) : 1 ≤ x ∧ x < 1073741825 := by
 obtain ⟨s, hs, h1, h2⟩ := hx
 have := h.b s hs
 omega
theorem us_of {l : List Sp} (h : Sep l) (hn : l.length ≤ 1000) (hx : ∀ x, inS l x → 1 ≤ x ∧ x < 1073741825) : Us l :=
 ⟨vd_of h fun x h1 => by have := hx x h1; omega, hn, fun s hs => by
  have a := hx _ (inS_lo h hs)
  have b := hx _ (inS_hi h hs)
  omega⟩
theorem meet0 {a b : List Sp} (ha : Sep a) : (meetS a b).length = 0 ↔ ∀ x, inS a x → ¬ inS b x := by
 rw [vQ]
 constructor
 ·intro h x h1 h2
  have : inS (meetS a b) x := in_meetS.2 ⟨h1, h2⟩
  rw [h] at this
  exact inS_nil.1 this
 ·intro h
  refine Sep.ext (sep_meetS ha) sep_nil fun x => ?_
  rw [in_meetS, inS_nil]
  exact ⟨fun ⟨h1, h2⟩ => h x h1 h2, fun h => h.elim⟩
theorem cnt_add : ∀ (l : List Sp) (st : List Sp × Bool × Sp), (l.foldl addStep st).1.length + (if (l.foldl addStep st).2.1 then 0 else 1) ≤ st.1.length + (if st.2.1 then 0 else 1) + l.length
 | [], st => by simp only [vH, List.length_nil]; exact vB _
 | t :: l, st => by
  rw [yX]
  have h := cnt_add l (addStep st t)
  have h2 : (addStep st t).1.length + (if (addStep st t).2.1 then 0 else 1) ≤ st.1.length + (if st.2.1 then 0 else 1) + 1 := by
   unfold addStep
   repeat' split
   all_goals simp_all
   all_goals (try omega)
  rw [vN]
  omega
theorem addS_len {l : List Sp} {s : Sp} : (addS l s).length ≤ l.length + 1 := by
 unfold addS
 split
 ·omega
 ·have h := cnt_add l ([], false, s)
  unfold addEnd
  split
  ·rename_i h2
   rw [h2] at h
   simp at h ⊢
   omega
  ·rename_i h2
   have h2 : (l.foldl addStep ([], false, s)).2.1 = false := by simpa using h2
   rw [h2] at h
   simp at h ⊢
   omega
theorem bothS_len : ∀ {l a : List Sp}, (bothS a l).length ≤ a.length + l.length
 | [], a => by simp [bothS]
 | s :: l, a => by
  have h := bothS_len (l := l) (a := addS a s)
  have h2 := addS_len (l := a) (s := s)
  unfold bothS at h ⊢
  rw [yX, vN]
  omega
theorem prS_len : ∀ {l : List Sp} {n : Int}, (prS l n).length = l.length
 | [], _ => rfl
 | s :: l, n => by simp [prS, prS_len]
theorem rest_len {l : List Sp} {n : Int} (h : Sep l) (hn : 0 ≤ n) : (minusS l (takeS l n)).length ≤ l.length := by
 rw [← of_prS h hn]
 have := bothS_len (l := prS l n) (a := [])
 rw [prS_len] at this
 simpa [ofS] using this
theorem takeS_len : ∀ {l : List Sp} {n : Int}, (takeS l n).length ≤ l.length
 | [], _ => by simp [takeS]
 | s :: l, n => by
  unfold takeS
  split
  ·simp
  ·have := takeS_len (l := l) (n := n - min (s.2 - s.1) n)
   simp; omega
theorem Us.take {l : List Sp} {n : Int} (h : Us l) : Us (takeS l n) := us_of (sep_takeS h.v.1) (vC takeS_len h.n) fun x hx => h.in (takeS_in hx)
theorem Us.rest {l : List Sp} {n : Int} (h : Us l) (hn : 0 ≤ n) : Us (minusS l (takeS l n)) := us_of (sep_minusS h.v.1) (vC (rest_len h.v.1 hn) h.n) fun x hx => h.in (in_minusS.1 hx).1
def MkE (me : Int) (m : Sp) : Prop := (0 ≤ m.1 ∧ m.1 < 128) ∧ m.1 ≠ me ∧ 1 ≤ m.2 ∧ m.2 ≤ 1099511627776
theorem mkOk_iff {l : List Sp} {me : Int} : MkOk l me ↔ Mks l ∧ ∀ m ∈ l, MkE me m := by
 constructor
 ·intro h
  refine ⟨h.mks, fun m hm => ?_⟩
  obtain ⟨k, hk, rfl⟩ := yN hm
  exact (h.at hk).1
 ·rintro ⟨h1, h2⟩ k hk
  have h3 := h2 _ (yH hk)
  unfold badM partyB countsB
  have hp := vE.1 h1
  unfold MkE at h3
  by_cases h0 : 0 < k
  ·have := hp (k - 1) k (by omega) hk (by omega)
   simp
   omega
  ·simp [h0]
   omega
theorem setM_mem {l : List Sp} {who n : Int} {m : Sp} (h : m ∈ setM l who n) : m = (who, n) ∨ m ∈ l := by
 unfold setM at h
 rw [yY, yO] at h
 rcases h with h | rfl | h
 ·exact .inr ((yS.1 h).1)
 ·exact .inl rfl
 ·exact .inr ((yS.1 h).1)
theorem setM_mks {l : List Sp} {who n : Int} (h : Mks l) : Mks (setM l who n) := by
 unfold setM Mks
 rw [List.pairwise_append]
 refine ⟨h.filter _, ?_, ?_⟩
 ·rw [List.pairwise_cons]
  refine ⟨fun t ht => ?_, h.filter _⟩
  have := (yS.1 ht).2
  simpa using this
 ·intro a ha b hb
  have ha := (yS.1 ha).2
  have ha' : a.1 < who := by simpa using ha
  rcases yO.1 hb with rfl | hb
  ·exact ha'
  ·have hb := (yS.1 hb).2
   have hb' : who < b.1 := by simpa using hb
   omega
theorem setM_ok {l : List Sp} {me who n : Int} (h : MkOk l me) (hw : MkE me (who, n)) : MkOk (setM l who n) me := by
 rw [mkOk_iff] at h ⊢
 refine ⟨setM_mks h.1, fun m hm => ?_⟩
 rcases setM_mem hm with rfl | hm
 ·exact hw
 ·exact h.2 m hm
theorem find_app {p : Sp → Bool} {a b : List Sp} (h : ∀ m ∈ a, p m = false) : (a ++ b).find? p = b.find? p := by
 rw [List.find?_append, List.find?_eq_none.2 fun m hm => by simp [h m hm]]
 rfl
theorem markOf_set {l : List Sp} {who n t : Int} (h : Mks l) : markOf (setM l who n) t = if t = who then n else markOf l t := by
 by_cases e : t = who
 ·subst e
  rw [if_pos rfl]
  unfold markOf setM
  rw [find_app]
  ·rw [vV (by simp)]
  ·intro m hm
   have := (yS.1 hm).2
   simp at this ⊢
   omega
 ·rw [if_neg e]
  induction l with
  | nil =>
   unfold setM markOf
   simp [Ne.symm e]
  | cons m l ih =>
   obtain ⟨h1, h2⟩ := mks_cons.1 h
   have ih := ih h2
   rcases uA m.1 who with c | c | c
   ·have e1 : setM (m :: l) who n = m :: setM l who n := by
     unfold setM
     rw [vM (by simpa using c), yQ (by simp; omega)]
     rfl
    rw [e1]
    unfold markOf at ih ⊢
    cases hm : m.1 == t with
    | true => rw [vV (by simpa using hm), vV (by simpa using hm)]
    | false => rw [vG (by simpa using hm), vG (by simpa using hm)]; exact ih
   ·have hno : l.filter (fun m => decide (m.1 < who)) = [] := by
     rw [vF]; intro t ht; have := h1 t ht; simp; omega
    have hall : l.filter (fun m => decide (who < m.1)) = l := by
     rw [vK]; intro t ht; have := h1 t ht; simp; omega
    have e1 : setM (m :: l) who n = (who, n) :: l := by
     unfold setM
     rw [yQ (by simp; omega), yQ (by simp; omega), hno, hall]
     rfl
    rw [e1]
    unfold markOf
    rw [vG (by simp; omega), vG (by simp; omega)]
   ·have hno : l.filter (fun m => decide (m.1 < who)) = [] := by
     rw [vF]; intro t ht; have := h1 t ht; simp; omega
    have hall : l.filter (fun m => decide (who < m.1)) = l := by
     rw [vK]; intro t ht; have := h1 t ht; simp; omega
    have e1 : setM (m :: l) who n = (who, n) :: m :: l := by
     unfold setM
     rw [yQ (by simp; omega), vM (by simpa using c), hno, hall]
     rfl
    rw [e1]
    unfold markOf
    rw [vG (by simp; omega)]
theorem isM_set {l : List Sp} {who n t : Int} (h : isM l t = true ∨ t = who) : isM (setM l who n) t = true := by
 unfold isM setM
 rw [List.any_append, List.any_cons]
 by_cases e : t = who
 ·subst e; simp
 ·rcases h with h | h
  ·unfold isM at h
   rw [vL] at h
   obtain ⟨m, hm, he⟩ := h
   have he' : m.1 = t := by simpa using he
   rcases Int.lt_or_lt_of_ne (show m.1 ≠ who by omega) with c | c
   ·have : (l.filter fun m => decide (m.1 < who)).any (fun m => m.1 == t) = true := vL.2 ⟨m, yS.2 ⟨hm, by simpa using c⟩, he⟩
    rw [this]; rfl
   ·have : (l.filter fun m => decide (who < m.1)).any (fun m => m.1 == t) = true := vL.2 ⟨m, yS.2 ⟨hm, by simpa using c⟩, he⟩
    rw [this]; simp
  ·exact absurd h e
end Go.Fx.O
namespace Go.Fx.O
open Go Go.Fx Go.Proofs Go.Fx.R
set_option maxRecDepth 20000
def cnt (l : List Gift) (t : Int) : Int := ((l.filter fun g => g.to == t).length : Nat)
theorem cnt_nil {t : Int} : cnt [] t = 0 := rfl
theorem cnt_cons {g : Gift} {l : List Gift} {t : Int} : cnt (g :: l) t = (if g.to = t then 1 else 0) + cnt l t := by
 unfold cnt
 rw [vX]
 by_cases h : g.to = t
 ·rw [if_pos (by simpa using h), if_pos h, vN]; omega
 ·rw [if_neg (by simpa using h), if_neg h]; omega
theorem cnt_nn {l : List Gift} {t : Int} : 0 ≤ cnt l t := by unfold cnt; omega
theorem cnt_app {l m : List Gift} {t : Int} : cnt (l ++ m) t = cnt l t + cnt m t := by
 unfold cnt; rw [vS, vI]; omega
def goodL (sent : List Sp) : List Gift → Prop
 | [] => True
 | g :: r => (isM sent g.to = true ∧ g.uses.length ≠ 0 ∧ Us g.uses ∧ g.serial = markOf sent g.to - cnt r g.to ∧ 1 ≤ g.serial) ∧ goodL sent r
theorem goodL_iff {sent : List Sp} : ∀ {l : List Gift}, goodL sent l ↔ ∀ k (h : k < l.length), isM sent l[k].to = true ∧ l[k].uses.length ≠ 0 ∧ Us l[k].uses ∧ l[k].serial = markOf sent l[k].to - cnt (l.drop (k + 1)) l[k].to ∧ 1 ≤ l[k].serial
 | [] => by simp [goodL]
 | g :: r => by
  unfold goodL
  rw [goodL_iff]
  constructor
  ·rintro ⟨h1, h2⟩ k hk
   cases k with
   | zero => exact h1
   | succ k => exact h2 k (by simpa using hk)
  ·intro h
   exact ⟨h 0 (by simp), fun k hk => h (k + 1) (by simpa using hk)⟩
theorem gds_iff {p : Purse} : Gds p ↔ goodL p.sent p.out := by
 rw [goodL_iff]
 unfold Gds
 refine forall_congr' fun k => forall_congr' fun hk => ?_
 unfold goodB
 rw [yM, yM, yM, yM, decide_eq_true_eq, decide_eq_true_eq, beq_iff_eq, usB_iff]
 unfold later cnt
 constructor
 ·rintro ⟨⟨⟨⟨a, b⟩, c⟩, d⟩, e⟩; exact ⟨a, b, c, d, e⟩
 ·rintro ⟨a, b, c, d, e⟩; exact ⟨⟨⟨⟨a, b⟩, c⟩, d⟩, e⟩
structure Rt (p : Purse) : Prop where
 me : 0 ≤ p.me ∧ p.me < 128
 l : Us p.left
 s : Us p.spent
 a : ∀ x, inS p.left x → ¬ inS p.spent x
 ms : MkOk p.sent p.me
 mh : MkOk p.heard p.me
 n : p.out.length ≤ 64
 g : goodL p.sent p.out
theorem rtB_iff {p : Purse} : rtB p = true ↔ Rt p := by
 unfold rtB frontB
 simp only [yM, decide_eq_true_eq, usB_iff, mkB_iff, gds_iff]
 constructor
 ·rintro ⟨⟨⟨⟨⟨⟨⟨h1, h2⟩, h3⟩, h4⟩, h5⟩, h6⟩, h7⟩, h8⟩
  exact ⟨by unfold partyB at h1; simpa using h1, h2, h3, (meet0 h2.v.1).1 h4, h5, h6, h7, h8⟩
 ·intro h
  exact ⟨⟨⟨⟨⟨⟨⟨by unfold partyB; simpa using h.me, h.l⟩, h.s⟩, (meet0 h.l.v.1).2 h.a⟩, h.ms⟩, h.mh⟩, h.n⟩, h.g⟩
theorem Rt.chk {p : Purse} (h : Rt p) : chkE p = 0 := by unfold chkE; rw [if_pos (rtB_iff.2 h)]
theorem rt_spend {p : Purse} (h : Rt p) : Rt (spendP p).1 := by
 unfold spendP
 split
 ·exact h
 ·split
  ·exact h
  ·rename_i c
   have hv := h.l.v.1
   refine ⟨h.me, us_of (sep_minusS hv) (by show (minusS p.left (takeS p.left 1)).length ≤ 1000; omega) fun x hx => h.l.in (in_minusS.1 hx).1, us_of (sep_bothS h.s.v.1) (by show (bothS p.spent (takeS p.left 1)).length ≤ 1000; omega) fun x hx => ?_, fun x hx hy => ?_, h.ms, h.mh, h.n, h.g⟩
   ·rw [in_bothS h.s.v.1] at hx
    rcases hx with hx | hx
    ·exact h.s.in hx
    ·exact h.l.in (takeS_in hx)
   ·obtain ⟨a, b⟩ := in_minusS.1 hx
    rw [in_bothS h.s.v.1] at hy
    rcases hy with hy | hy
    ·exact h.a x a hy
    ·exact b hy
theorem goodL_app {sent : List Sp} {t n : Int} {l : List Sp} (hm : Mks sent) (h1 : l.length ≠ 0) (h2 : Us l) (h3 : 1 ≤ markOf sent t + 1) : ∀ {out : List Gift}, goodL sent out → goodL (setM sent t (markOf sent t + 1)) (out ++ [⟨t, markOf sent t + 1, l⟩])
 | [], _ => by
  refine ⟨⟨isM_set (.inr rfl), h1, h2, ?_, h3⟩, trivial⟩
  show markOf sent t + 1 = markOf (setM sent t (markOf sent t + 1)) t - cnt [] t
  rw [markOf_set hm, if_pos rfl, cnt_nil]; omega
 | g :: r, ⟨⟨a, b, c, d, e⟩, hr⟩ => by
  refine ⟨⟨isM_set (.inl a), b, c, ?_, e⟩, goodL_app hm h1 h2 h3 (n := n) hr⟩
  rw [markOf_set hm]
  show g.serial = _ - cnt (r ++ [⟨t, markOf sent t + 1, l⟩]) g.to
  rw [cnt_app, cnt_cons, cnt_nil, d]
  by_cases e : g.to = t
  ·rw [if_pos e, if_pos e.symm, e]; omega
  ·rw [if_neg e, if_neg (fun h => e h.symm)]; omega
theorem takeN_ne {l : List Sp} {n : Int} (h : Sep l) (hn : 1 ≤ n) (hl : l ≠ []) : (takeS l n).length ≠ 0 := by
 cases l with
 | nil => exact absurd rfl hl
 | cons s l =>
  unfold takeS
  rw [if_neg (by omega)]
  simp
theorem rt_give {p : Purse} {to n : Int} (h : Rt p) : Rt (giveP p to n).1 := by
 unfold giveP
 split
 ·exact h
 ·rename_i c1
  split
  ·exact h
  ·rename_i c2
   split
   ·exact h
   ·rename_i c3
    have hv := h.l.v.1
    have hmb := mark_b (who := to) h.ms
    unfold partyB at c1
    simp at c1
    refine ⟨h.me, h.l.rest (by omega), h.s, fun x hx => h.a x (in_minusS.1 hx).1, setM_ok h.ms ⟨by simp only; omega, by simp only; omega, by simp only; omega, by simp only; omega⟩, h.mh, by simp only [vI, uG]; omega, ?_⟩
    refine goodL_app (n := n) h.ms.mks (takeN_ne hv (by omega) ?_) h.l.take (by omega) h.g
    intro hl
    rw [hl] at c2
    have : tot [] = 0 := rfl
    omega
theorem goodL_lt {sent : List Sp} {t : Int} : ∀ {r : List Gift}, goodL sent r → ∀ g ∈ r, g.to = t → markOf sent t - cnt r t < g.serial
 | g :: r, ⟨⟨_, _, _, d, _⟩, hr⟩, x, hx, ht => by
  rw [cnt_cons]
  rcases yO.1 hx with rfl | hx
  ·rw [if_pos ht, d, ht]; omega
  ·have := goodL_lt hr x hx ht
   split <;> omega
theorem goodL_keep {sent : List Sp} {L : Ltr} : ∀ {out : List Gift}, goodL sent out → goodL sent (out.filter (keepB L))
 | [], _ => trivial
 | g :: r, ⟨⟨a, b, c, d, e⟩, hr⟩ => by
  have ih := goodL_keep (L := L) hr
  rw [vX]
  cases hk : keepB L g with
  | false => exact ih
  | true =>
   refine ⟨⟨a, b, c, ?_, e⟩, ih⟩
   rw [d]
   congr 1
   unfold cnt
   rw [List.filter_filter]
   congr 2
   refine (List.filter_congr fun x hx => ?_)
   cases ht : x.to == g.to with
   | false => rfl
   | true =>
    have ht' : x.to = g.to := by simpa using ht
    have hlt := goodL_lt hr x hx ht'
    have : keepB L x = true := by
     unfold keepB at hk ⊢
     rw [ht']
     simp at hk ⊢
     omega
    rw [this]; rfl
theorem rt_ack {p : Purse} {L : Ltr} (h : Rt p) : Rt (ackP p L) := by
 unfold ackP
 split
 ·exact ⟨h.me, h.l, h.s, h.a, h.ms, h.mh, vC (uC ..) h.n, goodL_keep h.g⟩
 ·exact h
theorem rt_gift {p : Purse} {L : Ltr} (h : Rt p) (hu : Us L.uses) (h1 : partyB L.frm = true) (h2 : (L.frm == p.me) = false) (h3 : countsB L.serial = true) : Rt (giftP p L).1 := by
 unfold giftP
 split
 ·exact h
 ·split
  ·rename_i c
   unfold gOk at c
   simp only [yM, decide_eq_true_eq] at c
   obtain ⟨⟨⟨c1, c2⟩, c3⟩, c4⟩ := c
   have hv := h.l.v.1
   unfold partyB at h1
   unfold countsB at h3
   simp at h1 h2 h3
   refine ⟨h.me, us_of (sep_bothS hv) c4 fun x hx => ?_, h.s, fun x hx hy => ?_, h.ms, setM_ok h.mh ⟨by simp only; omega, h2, by simp only; omega, by simp only; omega⟩, h.n, h.g⟩
   ·rw [in_bothS hv] at hx
    rcases hx with hx | hx
    ·exact h.l.in hx
    ·exact hu.in hx
   ·rw [in_bothS hv] at hx
    rcases hx with hx | hx
    ·exact h.a x hx hy
    ·exact (meet0 hu.v.1).1 c3 x hx hy
  ·exact h
theorem Rt.uv {p : Purse} (h : Rt p) : ∀ g ∈ p.out, Us g.uses := by
 have key : ∀ {l : List Gift}, goodL p.sent l → ∀ g ∈ l, Us g.uses := by
  intro l
  induction l with
  | nil => intro _ g hg; cases hg
  | cons x r ih =>
   rintro ⟨h1, h2⟩ g hg
   rcases yO.1 hg with rfl | hg
   ·exact h1.2.2.1
   ·exact ih h2 g hg
 exact key h.g
end Go.Fx.O
namespace Go.Fx.O
open Go Go.Fx Go.Proofs Go.Fx.R
set_option maxRecDepth 20000
end Go.Fx.O
namespace Go.Fx.O
open Go Go.Fx Go.Proofs Go.Fx.R
set_option maxRecDepth 20000
theorem hle {q : Purse} (h : Rt q) : q.out.length ≤ 1000000 := vC h.n (by omega)
end Go.Fx.O
namespace Go.Fx.O
open Go Go.Fx Go.Proofs Go.Fx.R
set_option maxRecDepth 20000
def ind (l : List Sp) (x : Int) : Nat := if hasB l x then 1 else 0
theorem ind_le {l : List Sp} {x : Int} : ind l x ≤ 1 := by unfold ind; split <;> omega
theorem ind_pos {l : List Sp} {x : Int} : inS l x ↔ ind l x = 1 := by
 unfold ind
 rw [← hasB_iff]
 cases hasB l x <;> simp
theorem ind_zero {l : List Sp} {x : Int} : ¬ inS l x ↔ ind l x = 0 := by
 rw [ind_pos]
 have := ind_le (l := l) (x := x)
 omega
theorem ind_nil {x : Int} : ind [] x = 0 := rfl
theorem ind_both {a b : List Sp} {x : Int} (h : Sep a) (hd : ind a x + ind b x ≤ 1) : ind (bothS a b) x = ind a x + ind b x := by
 have hb := ind_pos (l := bothS a b) (x := x)
 rw [in_bothS h, ind_pos, ind_pos] at hb
 have := ind_le (l := bothS a b) (x := x)
 have := ind_le (l := a) (x := x)
 have := ind_le (l := b) (x := x)
 by_cases c : ind a x = 1 ∨ ind b x = 1
 ·have := hb.1 c; omega
 ·have h2 : ¬ ind (bothS a b) x = 1 := fun h => c (hb.2 h)
  omega
def fl (p q : Purse) (x : Int) : Nat := if p.me = q.me then 0 else ((p.out.map fun g => if selG p q g then ind g.uses x else 0)).sum
def plc (all : List Purse) (p : Purse) (x : Int) : Nat := ind p.left x + ind p.spent x + (all.map fun q => fl p q x).sum
def tt (all : List Purse) (x : Int) : Nat := (all.map fun p => plc all p x).sum
structure Put (a : List Sp × Bool) (c : Int → Nat) : Prop where
 v : Sep a.1
 o : a.2 = true
 n : ∀ x, ind a.1 x = c x
theorem Put.put {a : List Sp × Bool} {c : Int → Nat} {l : List Sp} (h : Put a c) (hd : ∀ x, c x + ind l x ≤ 1) : Put (putS a l) fun x => c x + ind l x := by
 refine ⟨sep_bothS h.v, ?_, fun x => ?_⟩
 ·unfold putS
  rw [h.o, yA, decide_eq_true_eq, meet0 h.v]
  intro x h1 h2
  have := hd x
  rw [ind_pos, h.n] at h1
  rw [ind_pos] at h2
  omega
 ·have := hd x
  rw [← h.n] at this
  show ind (bothS a.1 l) x = _
  rw [ind_both h.v this, h.n]
theorem fly_put {p q : Purse} : ∀ {l : List Gift} {a : List Sp × Bool} {c : Int → Nat}, Put a c → (∀ x, c x + (l.map fun g => if selG p q g then ind g.uses x else 0).sum ≤ 1) →
  Put (l.foldl (flyStep p q) a) fun x => c x + (l.map fun g => if selG p q g then ind g.uses x else 0).sum
 | [], a, c, h, _ => by simpa using h
 | g :: l, a, c, h, hd => by
  rw [yX]
  by_cases s : selG p q g = true
  ·have e : flyStep p q a g = putS a g.uses := by unfold flyStep; rw [if_pos s]; rfl
   rw [e]
   have h2 := h.put (l := g.uses) fun x => by
    have := hd x
    rw [yJ, yK, if_pos s] at this
    omega
   have h3 := fly_put h2 (p := p) (q := q) (l := l) fun x => by
    have := hd x
    rw [yJ, yK, if_pos s] at this
    omega
   refine ⟨h3.v, h3.o, fun x => ?_⟩
   rw [h3.n, yJ, yK, if_pos s]
   omega
  ·have e : flyStep p q a g = a := by unfold flyStep; rw [if_neg s]
   rw [e]
   have h3 := fly_put h (p := p) (q := q) (l := l) fun x => by
    have := hd x
    rw [yJ, yK, if_neg s] at this
    omega
   refine ⟨h3.v, h3.o, fun x => ?_⟩
   rw [h3.n, yJ, yK, if_neg s]
   omega
theorem fly_all {p q : Purse} (hid : p.id = q.id) (hd : ∀ x, fl p q x ≤ 1) : (flyP p q).2 = true ∧ ∀ x, ind (flyP p q).1 x = fl p q x := by
 unfold flyP fl at *
 by_cases e : p.me = q.me
 ·rw [if_pos (by rw [hid, e]; simp)]
  exact ⟨rfl, fun x => by rw [if_pos e]; rfl⟩
 ·rw [if_neg (by rw [hid]; simpa using e)]
  simp only [if_neg e] at hd ⊢
  have h := fly_put (p := p) (q := q) (l := p.out) (a := ([], true)) (c := fun _ => 0) ⟨sep_nil, rfl, fun _ => rfl⟩ fun x => by have := hd x; omega
  exact ⟨h.o, fun x => by have := h.n x; rw [uE] at this; exact this⟩
theorem kq_put {p : Purse} : ∀ {l : List Purse} {a : List Sp × Bool} {c : Int → Nat}, (∀ q ∈ l, p.id = q.id) → Put a c → (∀ x, c x + (l.map fun q => fl p q x).sum ≤ 1) →
  Put (l.foldl (kq p) a) fun x => c x + (l.map fun q => fl p q x).sum
 | [], a, c, _, h, _ => by simpa using h
 | q :: l, a, c, hi, h, hd => by
  rw [yX]
  have hd' : ∀ x, c x + fl p q x + (l.map fun q => fl p q x).sum ≤ 1 := fun x => by
   have := hd x
   rw [yJ, yK] at this
   omega
  obtain ⟨f1, f2⟩ := fly_all (hi q (by simp)) fun x => by have := hd' x; omega
  have e : kq p a q = putS a (flyP p q).1 := by unfold kq; rw [f1, Bool.and_true]
  rw [e]
  have h2 := h.put (l := (flyP p q).1) fun x => by rw [f2]; have := hd' x; omega
  have h3 := kq_put (p := p) (l := l) (fun q hq => hi q (by simp [hq])) h2 fun x => by rw [f2]; exact hd' x
  refine ⟨h3.v, h3.o, fun x => ?_⟩
  rw [h3.n, f2, yJ, yK]
  omega
theorem kp_put {all : List Purse} : ∀ {l : List Purse} {a : List Sp × Bool} {c : Int → Nat}, (∀ p ∈ l, ∀ q ∈ all, p.id = q.id) → Put a c → (∀ x, c x + (l.map fun p => plc all p x).sum ≤ 1) →
  Put (l.foldl (kp all) a) fun x => c x + (l.map fun p => plc all p x).sum
 | [], a, c, _, h, _ => by simpa using h
 | p :: l, a, c, hi, h, hd => by
  rw [yX]
  have hd' : ∀ x, c x + (ind p.left x + ind p.spent x + (all.map fun q => fl p q x).sum) + (l.map fun p => plc all p x).sum ≤ 1 := fun x => by
   have := hd x
   rw [yJ, yK] at this
   unfold plc at this ⊢
   omega
  have h1 := h.put (l := p.left) fun x => by have := hd' x; omega
  have h2 := h1.put (l := p.spent) fun x => by have := hd' x; omega
  have h3 := kq_put (p := p) (l := all) (hi p (by simp)) h2 fun x => by have := hd' x; omega
  have h4 := kp_put (all := all) (l := l) (fun q hq => hi q (by simp [hq])) h3 fun x => by have := hd' x; omega
  refine ⟨h4.v, h4.o, fun x => ?_⟩
  have := h4.n x
  show ind (l.foldl (kp all) (all.foldl (kq p) (putS (putS a p.left) p.spent))).1 x = _
  rw [this, yJ, yK]
  unfold plc
  omega
theorem known_ok {all : List Purse} {n : Nat} (hi : ∀ p ∈ all, ∀ q ∈ all, p.id = q.id) (h : ∀ x, tt all x = if 1 ≤ x ∧ x ≤ n then 1 else 0) : knownF all = (if n = 0 then [] else [(1, (n : Int) + 1)], true) := by
 have hp := kp_put (all := all) (l := all) (a := ([], true)) (c := fun _ => 0) hi ⟨sep_nil, rfl, fun _ => rfl⟩ fun x => by
  have := h x
  unfold tt at this
  rw [uE, this]
  split <;> omega
 have e : (knownF all).1 = if n = 0 then [] else [(1, (n : Int) + 1)] := by
  refine Sep.ext hp.v ?_ fun x => ?_
  ·split
   ·exact sep_nil
   ·exact sep_one.2 (by simp only; omega)
  ·have h1 : inS (knownF all).1 x ↔ tt all x = 1 := by
    rw [ind_pos]
    have := hp.n x
    rw [uE] at this
    unfold knownF
    rw [this]; rfl
   rw [h1, h]
   by_cases h0 : n = 0
   ·rw [if_pos h0, inS_nil, if_neg (by omega)]
    simp
   ·rw [if_neg h0, inS_cons]
    simp only [inS_nil, or_false]
    split <;> simp <;> omega
 exact Prod.ext e hp.o
end Go.Fx.O
namespace Go.Fx.O
open Go Go.Fx Go.Proofs Go.Fx.R
set_option maxRecDepth 20000
theorem sum_set (f : Purse → Nat) (p : Purse) : ∀ (l : List Purse) (k : Nat) (h : k < l.length), ((l.set k p).map f).sum + f l[k] = (l.map f).sum + f p
 | [], _, h => by simp at h
 | a :: l, 0, _ => by simp only [List.set_cons_zero, yJ, yK, vW]; omega
 | a :: l, k + 1, h => by
  have := sum_set f p l k (by simpa using h)
  simp only [List.set_cons_succ, yJ, yK, vU]
  omega
theorem sum_same {f g : Purse → Nat} {l : List Purse} (h : ∀ p ∈ l, f p = g p) : (l.map f).sum = (l.map g).sum := by rw [uH h]
theorem fl_q {p q q' : Purse} {x : Int} (h1 : q'.me = q.me) (h2 : q'.heard = q.heard) : fl p q' x = fl p q x := by unfold fl selG; rw [h1, h2]
theorem fl_p {p p' q : Purse} {x : Int} (h1 : p'.me = p.me) (h2 : p'.out = p.out) : fl p' q x = fl p q x := by unfold fl selG; rw [h1, h2]
theorem tt_row {all : List Purse} {k : Nat} {p' : Purse} {x : Int} (h : k < all.length) (h1 : p'.me = all[k].me) (h2 : p'.heard = all[k].heard) (h3 : plc all p' x = plc all all[k] x) : tt (all.set k p') x = tt all x := by
 have e : ∀ p, plc (all.set k p') p x = plc all p x := fun p => by
  unfold plc
  have := sum_set (fun q => fl p q x) p' all k h
  rw [fl_q h1 h2] at this
  omega
 unfold tt
 rw [sum_same fun p _ => e p]
 have := sum_set (fun p => plc all p x) p' all k h
 rw [h3] at this
 omega
theorem ind_minus {a b : List Sp} {x : Int} (h : ∀ x, inS b x → inS a x) : ind (minusS a b) x + ind b x = ind a x := by
 have h1 := in_minusS (a := a) (b := b) (x := x)
 rw [ind_pos, ind_pos, ind_pos] at h1
 have h2 := h x
 rw [ind_pos, ind_pos] at h2
 have := ind_le (l := minusS a b) (x := x)
 have := ind_le (l := a) (x := x)
 have := ind_le (l := b) (x := x)
 by_cases c : ind b x = 1
 ·have := h2 c
  have : ¬ ind (minusS a b) x = 1 := fun h => (h1.1 h).2 c
  omega
 ·by_cases d : ind a x = 1
  ·have := h1.2 ⟨d, c⟩; omega
  ·have : ¬ ind (minusS a b) x = 1 := fun h => d (h1.1 h).1
   omega
theorem plc_spend {all : List Purse} {p : Purse} {x : Int} (h : Rt p) : plc all (spendP p).1 x = plc all p x := by
 unfold spendP
 split
 ·rfl
 ·split
  ·rfl
  ·unfold plc
   rw [sum_same (f := fun q => fl { p with left := minusS p.left (takeS p.left 1), spent := bothS p.spent (takeS p.left 1) } q x) (g := fun q => fl p q x) fun q _ => fl_p rfl rfl]
   have h1 := ind_minus (a := p.left) (b := takeS p.left 1) (x := x) fun x hx => takeS_in hx
   have h2 : ind p.spent x + ind (takeS p.left 1) x ≤ 1 := by
    have a := ind_le (l := p.spent) (x := x)
    have b := ind_le (l := takeS p.left 1) (x := x)
    by_cases c : inS (takeS p.left 1) x
    ·have := ind_zero.1 (h.a x (takeS_in c)); omega
    ·have := ind_zero.1 c; omega
   have h3 := ind_both h.s.v.1 h2
   simp only
   omega
def abv (out : List Gift) (j s : Int) (x : Int) : Nat := (out.map fun g => if g.to = j ∧ s < g.serial then ind g.uses x else 0).sum
theorem fl_abv {p q : Purse} {x : Int} (h : p.me ≠ q.me) : fl p q x = abv p.out q.me (markOf q.heard p.me) x := by
 unfold fl abv selG
 rw [if_neg h]
 congr 1
 refine uH fun g _ => ?_
 by_cases c : g.to = q.me ∧ markOf q.heard p.me < g.serial
 ·rw [if_pos c, if_pos (by simp [c.1, c.2])]
 ·rw [if_neg c, if_neg (by simp; exact fun h => by omega)]
theorem abv_app {a b : List Gift} {j s x : Int} : abv (a ++ b) j s x = abv a j s x + abv b j s x := by
 unfold abv; rw [yL, List.sum_append]
theorem abv_cons {g : Gift} {l : List Gift} {j s x : Int} : abv (g :: l) j s x = (if g.to = j ∧ s < g.serial then ind g.uses x else 0) + abv l j s x := by
 unfold abv; rw [yJ, yK]
theorem abv_all {l : List Gift} {j s s' x : Int} (h : ∀ g ∈ l, g.to = j → (s < g.serial ↔ s' < g.serial)) : abv l j s x = abv l j s' x := by
 induction l with
 | nil => rfl
 | cons g l ih =>
  rw [abv_cons, abv_cons, ih fun t ht => h t (by simp [ht])]
  congr 1
  have := h g (by simp)
  by_cases c : g.to = j
  ·have := this c
   by_cases d : s < g.serial
   ·rw [if_pos ⟨c, d⟩, if_pos ⟨c, this.1 d⟩]
   ·rw [if_neg fun e => d e.2, if_neg fun e => d (this.2 e.2)]
  ·rw [if_neg fun e => c e.1, if_neg fun e => c e.1]
theorem abv_one {sent : List Sp} {j s x : Int} : ∀ {out : List Gift}, goodL sent out → ∀ g0 ∈ out, g0.to = j → g0.serial = s → abv out j (s - 1) x = abv out j s x + ind g0.uses x
 | g :: r, ⟨⟨_, _, _, d, _⟩, hr⟩, g0, h0, h1, h2 => by
  rw [abv_cons, abv_cons]
  rcases yO.1 h0 with rfl | h0
  ·rw [if_pos ⟨h1, by omega⟩, if_neg fun c => by omega]
   have : abv r j (s - 1) x = abv r j s x := abv_all fun t ht hj => by
    have := goodL_lt hr t ht hj
    rw [h1] at d
    constructor
    ·intro _; omega
    ·intro _; omega
   omega
  ·have ih := abv_one hr g0 h0 h1 h2 (x := x)
   have hlt := goodL_lt hr g0 h0 h1
   by_cases c : g.to = j
   ·rw [c] at d
    rw [if_neg fun e => by omega, if_neg fun e => by omega, ih]; omega
   ·rw [if_neg fun e => c e.1, if_neg fun e => c e.1, ih]; omega
theorem abv_keep {L : Ltr} {j s x : Int} : ∀ {out : List Gift}, (∀ g ∈ out, keepB L g = false → g.to = j → ¬ s < g.serial) → abv (out.filter (keepB L)) j s x = abv out j s x
 | [], _ => rfl
 | g :: r, h => by
  have ih := abv_keep (L := L) (j := j) (s := s) (x := x) (out := r) fun t ht => h t (by simp [ht])
  rw [vX]
  cases hk : keepB L g with
  | true => simp only [if_true]; rw [abv_cons, abv_cons, ih]
  | false =>
   simp only [uB, if_false]
   rw [ih, abv_cons, if_neg fun c => h g (by simp) hk c.1 c.2]; omega
end Go.Fx.O
namespace Go.Fx.O
open Go Go.Fx Go.Proofs Go.Fx.R
set_option maxRecDepth 20000
def id1 : Dig := ⟨1, 0, 0, 0, 0, 0, 0, 0, 0, 0, 0, 0, 0, 0, 0, 0⟩
structure LOk (all : List Purse) (L : Ltr) : Prop where
 id : L.id = id1
 w : ∃ (i j : Nat) (hi : i < all.length) (hj : j < all.length), i ≠ j ∧ L.frm = i ∧ L.to = j ∧
  ((L.kind = 1 ∧ L.serial ≤ markOf all[i].sent j ∧ (markOf all[j].heard i < L.serial → ∃ g ∈ all[i].out, g.to = j ∧ g.serial = L.serial ∧ g.uses = L.uses)) ∨
    (L.kind = 2 ∧ L.serial ≤ markOf all[i].heard j))
structure Inv (n : Nat) (all : List Purse) (way : List Ltr) (spent : List Int) : Prop where
 len : all.length = 4
 rt : ∀ i (h : i < all.length), Rt all[i] ∧ all[i].id = id1 ∧ all[i].me = i
 gt : ∀ i (h : i < all.length), ∀ g ∈ all[i].out, 0 ≤ g.to ∧ g.to < 4
 hs : ∀ i j (hi : i < all.length) (hj : j < all.length), markOf all[j].heard i ≤ markOf all[i].sent j
 tt : ∀ x, tt all x = if 1 ≤ x ∧ x ≤ n then 1 else 0
 sp : ∀ x ∈ spent, ∃ i, ∃ h : i < all.length, inS all[i].spent x
 nd : spent.Nodup
 lt : ∀ L ∈ way, LOk all L
structure Stp (all : List Purse) (k : Nat) (hk : k < all.length) (p' : Purse) : Prop where
 rt : Rt p'
 id : p'.id = all[k].id
 me : p'.me = all[k].me
 gt : ∀ g ∈ p'.out, 0 ≤ g.to ∧ g.to < 4
 s : ∀ t, markOf all[k].sent t ≤ markOf p'.sent t
 h : ∀ t, markOf all[k].heard t ≤ markOf p'.heard t
 hs : ∀ i (hi : i < all.length), i ≠ k → markOf p'.heard i ≤ markOf all[i].sent k
 hk : markOf p'.heard k ≤ markOf p'.sent k
 o : ∀ j (hj : j < all.length), j ≠ k → ∀ g ∈ all[k].out, g.to = j → markOf all[j].heard k < g.serial → g ∈ p'.out
 tt : ∀ x, tt (all.set k p') x = tt all x
 sp : ∀ x, inS all[k].spent x → inS p'.spent x
theorem LOk.step {all : List Purse} {k : Nat} {hk : k < all.length} {p' : Purse} (h : Stp all k hk p') {L : Ltr} (hL : LOk all L) : LOk (all.set k p') L := by
 obtain ⟨h0, i, j, hi, hj, hne, h1, h2, h3⟩ := hL
 refine ⟨h0, i, j, by simpa using hi, by simpa using hj, hne, h1, h2, ?_⟩
 simp only [vD]
 rcases h3 with ⟨k1, a, b⟩ | ⟨k2, a⟩
 ·refine .inl ⟨k1, ?_, ?_⟩
  ·split
   ·rename_i e; subst e
    have := h.s j; omega
   ·exact a
  ·intro hlt
   have hlt2 : markOf all[j].heard i < L.serial := by
    split at hlt
    ·rename_i e; subst e
     have := h.h i; omega
    ·exact hlt
   obtain ⟨g, hg, g1, g2, g3⟩ := b hlt2
   refine ⟨g, ?_, g1, g2, g3⟩
   split
   ·rename_i e; subst e
    exact h.o j hj (fun e => hne e.symm) g hg g1 (by rw [g2]; exact hlt2)
   ·exact hg
 ·refine .inr ⟨k2, ?_⟩
  split
  ·rename_i e; subst e
   have := h.h j; omega
  ·exact a
theorem Inv.step {n : Nat} {all : List Purse} {way : List Ltr} {spent : List Int} (h : Inv n all way spent) {k : Nat} {hk : k < all.length} {p' : Purse} (s : Stp all k hk p') : Inv n (all.set k p') way spent := by
 refine ⟨by simpa using h.len, fun i hi => ?_, fun i hi => ?_, fun i j hi hj => ?_, fun x => by rw [s.tt, h.tt], fun x hx => ?_, h.nd, fun L hL => (h.lt L hL).step s⟩
 ·have hi' : i < all.length := by simpa using hi
  simp only [vD]
  split
  ·rename_i e; subst e
   have := h.rt k hk
   exact ⟨s.rt, s.id.trans this.2.1, s.me.trans this.2.2⟩
  ·exact h.rt i hi'
 ·have hi' : i < all.length := by simpa using hi
  simp only [vD]
  split
  ·exact s.gt
  ·exact h.gt i hi'
 ·have hi' : i < all.length := by simpa using hi
  have hj' : j < all.length := by simpa using hj
  simp only [vD]
  have h0 := h.hs i j hi' hj'
  split
  ·rename_i e; subst e
   split
   ·rename_i e; subst e
    exact s.hk
   ·rename_i e
    exact s.hs i hi' (fun c => e c.symm)
  ·split
   ·rename_i e; subst e
    have := s.s j; omega
   ·exact h0
 ·obtain ⟨i, hi, hx⟩ := h.sp x hx
  refine ⟨i, by simpa using hi, ?_⟩
  simp only [vD]
  split
  ·rename_i e; subst e
   exact s.sp x hx
  ·exact hx
theorem stp_spend {n : Nat} {all : List Purse} {way : List Ltr} {spent : List Int} (h : Inv n all way spent) {k : Nat} (hk : k < all.length) : Stp all k hk (spendP all[k]).1 := by
 obtain ⟨hr, _, _⟩ := h.rt k hk
 have e : (spendP all[k]).1.id = all[k].id ∧ (spendP all[k]).1.me = all[k].me ∧ (spendP all[k]).1.sent = all[k].sent ∧ (spendP all[k]).1.heard = all[k].heard ∧ (spendP all[k]).1.out = all[k].out := by
  unfold spendP
  split
  ·exact ⟨rfl, rfl, rfl, rfl, rfl⟩
  ·split <;> exact ⟨rfl, rfl, rfl, rfl, rfl⟩
 obtain ⟨e1, e2, e3, e4, e5⟩ := e
 refine ⟨rt_spend hr, e1, e2, by rw [e5]; exact h.gt k hk, fun t => by rw [e3]; exact yE _, fun t => by rw [e4]; exact yE _, fun i hi _ => by rw [e4]; exact h.hs i k hi hk, by rw [e3, e4]; exact h.hs k k hk hk, fun j hj _ g hg _ _ => by rw [e5]; exact hg, fun x => tt_row hk e2 e4 (plc_spend hr), fun x hx => ?_⟩
 unfold spendP
 split
 ·exact hx
 ·split
  ·exact hx
  ·exact (in_bothS hr.s.v.1).2 (.inl hx)
end Go.Fx.O
namespace Go.Fx.O
open Go Go.Fx Go.Proofs Go.Fx.R
set_option maxRecDepth 20000
theorem sum_zero {f : Purse → Nat} : ∀ {l : List Purse}, (∀ p ∈ l, f p = 0) → (l.map f).sum = 0
 | [], _ => rfl
 | p :: l, h => by rw [yJ, yK, h p (by simp), sum_zero fun q hq => h q (by simp [hq])]
theorem sum_add {f g : Purse → Nat} : ∀ {l : List Purse}, (l.map fun p => f p + g p).sum = (l.map f).sum + (l.map g).sum
 | [] => rfl
 | p :: l => by simp only [yJ, yK]; rw [sum_add]; omega
theorem sum_me {c : Nat} {t : Int} : ∀ {l : List Purse} {off : Nat}, (∀ i (h : i < l.length), l[i].me = ((off + i : Nat) : Int)) → (off : Int) ≤ t → t < (off + l.length : Nat) → (l.map fun p => if p.me = t then c else 0).sum = c
 | [], off, _, h1, h2 => by simp at h2; omega
 | p :: l, off, h, h1, h2 => by
  have hp := h 0 (by simp)
  simp only [vW, vY] at hp
  have hr : ∀ i (hi : i < l.length), l[i].me = ((off + 1 + i : Nat) : Int) := fun i hi => by
   have := h (i + 1) (by simpa using hi)
   simp only [vU] at this
   rw [this]; omega
  rw [yJ, yK]
  by_cases e : p.me = t
  ·rw [if_pos e, sum_zero]
   ·rfl
   ·intro q hq
    obtain ⟨i, hi, rfl⟩ := yN hq
    have := hr i hi
    rw [if_neg]
    omega
  ·rw [if_neg e, sum_me hr (by omega) (by rw [vN] at h2; omega)]
   omega
theorem stp_give {n : Nat} {all : List Purse} {way : List Ltr} {spent : List Int} (h : Inv n all way spent) {k : Nat} (hk : k < all.length) {to m : Int} (ht : 0 ≤ to ∧ to < 4) : Stp all k hk (giveP all[k] to m).1 := by
 obtain ⟨hr, hid, hme⟩ := h.rt k hk
 have hrg := rt_give (to := to) (n := m) hr
 unfold giveP at hrg ⊢
 have same : Stp all k hk all[k] := ⟨hr, rfl, rfl, h.gt k hk, fun _ => yE _, fun _ => yE _, fun i hi _ => h.hs i k hi hk, h.hs k k hk hk, fun _ _ _ _ hg _ _ => hg, fun x => by rw [uF], fun _ hx => hx⟩
 by_cases c1 : ((!partyB to || to == all[k].me) || decide (m < 1)) = true
 ·rw [if_pos c1]; exact same
 ·rw [if_neg c1] at hrg ⊢
  by_cases c2 : tot all[k].left < m
  ·rw [if_pos c2]; exact same
  ·rw [if_neg c2] at hrg ⊢
   by_cases c3 : 64 ≤ all[k].out.length ∨ 1099511627776 ≤ markOf all[k].sent to
   ·rw [if_pos c3]; exact same
   ·rw [if_neg c3] at hrg ⊢
    have hne : to ≠ all[k].me := by simp at c1; omega
    have hmk : ∀ t, markOf (setM all[k].sent to (markOf all[k].sent to + 1)) t = if t = to then markOf all[k].sent to + 1 else markOf all[k].sent t := fun t => markOf_set hr.ms.mks
    refine ⟨hrg, rfl, rfl, ?_, ?_, fun _ => yE _, fun i hi _ => h.hs i k hi hk, ?_, fun j hj _ g hg _ _ => List.mem_append_left _ hg, fun x => tt_row hk rfl rfl ?_, fun _ hx => hx⟩
    ·intro g hg
     rcases yY.1 hg with hg | hg
     ·exact h.gt k hk g hg
     ·rw [yZ] at hg; subst hg; exact ht
    ·intro t
     simp only
     rw [hmk]
     split
     ·rename_i e; subst e; omega
     ·exact yE _
    ·have := h.hs k k hk hk
     simp only
     rw [hmk]
     split
     ·rename_i e; rw [e] at this; omega
     ·exact this
    ·have e : ∀ q ∈ all, fl { all[k] with left := minusS all[k].left (takeS all[k].left m), sent := setM all[k].sent to (markOf all[k].sent to + 1), out := all[k].out ++ [⟨to, markOf all[k].sent to + 1, takeS all[k].left m⟩] } q x = fl all[k] q x + (if q.me = to then ind (takeS all[k].left m) x else 0) := by
      intro q hq
      obtain ⟨j, hj, rfl⟩ := yN hq
      obtain ⟨_, _, hmj⟩ := h.rt j hj
      by_cases c : all[k].me = all[j].me
      ·unfold fl
       rw [if_pos c, if_pos c, if_neg (by omega)]
      ·rw [fl_abv c, fl_abv (by exact c)]
       simp only
       rw [abv_app]
       congr 1
       unfold abv
       simp only [yJ, uD, yK, List.sum_nil, vY]
       have hh := h.hs k j hk hj
       by_cases d : to = all[j].me
       ·have hlt : markOf all[j].heard all[k].me < markOf all[k].sent to + 1 := by
         rw [hme, d, hmj]
         omega
        rw [if_pos ⟨d, hlt⟩, if_pos d.symm]
       ·rw [if_neg fun e => d e.1, if_neg fun e => d e.symm]
     unfold plc
     rw [sum_same e, sum_add, sum_me (off := 0) (fun i hi => by rw [(h.rt i hi).2.2]; simp) (by omega) (by rw [h.len]; omega)]
     have := ind_minus (a := all[k].left) (b := takeS all[k].left m) (x := x) fun x hx => takeS_in hx
     simp only
     omega
theorem stp_ack {n : Nat} {all : List Purse} {way : List Ltr} {spent : List Int} (h : Inv n all way spent) {i k : Nat} (hi : i < all.length) (hk : k < all.length) {L : Ltr} (h1 : L.frm = i) (h2 : L.serial ≤ markOf all[i].heard k) : Stp all k hk (ackP all[k] L) := by
 obtain ⟨hr, hid, hme⟩ := h.rt k hk
 have hra := rt_ack (L := L) hr
 unfold ackP at hra ⊢
 have same : Stp all k hk all[k] := ⟨hr, rfl, rfl, h.gt k hk, fun _ => yE _, fun _ => yE _, fun i hi _ => h.hs i k hi hk, h.hs k k hk hk, fun _ _ _ _ hg _ _ => hg, fun x => by rw [uF], fun _ hx => hx⟩
 by_cases c : L.serial ≤ markOf all[k].sent L.frm
 ·rw [if_pos c] at hra ⊢
  have hno : ∀ g, keepB L g = false → g.to = i ∧ g.serial ≤ L.serial := fun g hg => by
   unfold keepB at hg
   simp at hg
   omega
  refine ⟨hra, rfl, rfl, fun g hg => h.gt k hk g (yS.1 hg).1, fun _ => yE _, fun _ => yE _, fun i hi _ => h.hs i k hi hk, h.hs k k hk hk, fun j hj _ g hg hto hlt => ?_, fun x => tt_row hk rfl rfl ?_, fun _ hx => hx⟩
  ·refine yS.2 ⟨hg, ?_⟩
   cases hb : keepB L g with
   | true => rfl
   | false =>
    obtain ⟨a, b⟩ := hno g hb
    have : j = i := by omega
    subst this
    omega
  ·unfold plc
   rw [sum_same (f := fun q => fl { all[k] with out := all[k].out.filter (keepB L) } q x) (g := fun q => fl all[k] q x)]
   intro q hq
   obtain ⟨j, hj, rfl⟩ := yN hq
   obtain ⟨_, _, hmj⟩ := h.rt j hj
   by_cases c : all[k].me = all[j].me
   ·unfold fl
    rw [if_pos c, if_pos c]
   ·rw [fl_abv c, fl_abv (by exact c)]
    refine abv_keep fun g hg hb hto hlt => ?_
    obtain ⟨a, b⟩ := hno g hb
    have : j = i := by omega
    subst this
    rw [hme] at hlt
    omega
 ·rw [if_neg c]; exact same
end Go.Fx.O
namespace Go.Fx.O
open Go Go.Fx Go.Proofs Go.Fx.R
set_option maxRecDepth 20000
theorem stp_same {n : Nat} {all : List Purse} {way : List Ltr} {spent : List Int} (h : Inv n all way spent) {k : Nat} (hk : k < all.length) : Stp all k hk all[k] := by
 obtain ⟨hr, hid, hme⟩ := h.rt k hk
 exact ⟨hr, rfl, rfl, h.gt k hk, fun _ => yE _, fun _ => yE _, fun i hi _ => h.hs i k hi hk, h.hs k k hk hk, fun _ _ _ _ hg _ _ => hg, fun x => by rw [uF], fun _ hx => hx⟩
theorem stp_gift {n : Nat} {all : List Purse} {way : List Ltr} {spent : List Int} (h : Inv n all way spent) {i k : Nat} (hi : i < all.length) (hk : k < all.length) (hne : i ≠ k) {L : Ltr} (h1 : L.frm = i) (h2 : L.serial ≤ markOf all[i].sent k)
  (h3 : markOf all[k].heard i < L.serial → ∃ g ∈ all[i].out, g.to = k ∧ g.serial = L.serial ∧ g.uses = L.uses) (hu : Us L.uses) (ho : outL all[k] L = false) : Stp all k hk (giftP all[k] L).1 ∧ (0 < (giftP all[k] L).2 → (giftP all[k] L).2 ≤ markOf (giftP all[k] L).1.heard i) := by
 obtain ⟨hr, hid, hme⟩ := h.rt k hk
 unfold outL at ho
 simp only [uI, Bool.not_eq_false'] at ho
 have hrg := rt_gift (L := L) hr hu ho.1.1.2 ho.1.2 ho.2
 unfold giftP at hrg ⊢
 have same := stp_same h hk
 by_cases c1 : L.serial ≤ markOf all[k].heard L.frm
 ·rw [if_pos c1]
  exact ⟨same, fun _ => by simp only; rw [h1]; exact yE _⟩
 ·rw [if_neg c1] at hrg ⊢
  by_cases c2 : gOk all[k] L = true
  ·rw [if_pos c2] at hrg ⊢
   unfold gOk at c2
   simp only [yM, decide_eq_true_eq, beq_iff_eq] at c2
   obtain ⟨⟨⟨d1, d2⟩, d3⟩, d4⟩ := c2
   have hmk : ∀ t, markOf (setM all[k].heard L.frm L.serial) t = if t = L.frm then L.serial else markOf all[k].heard t := fun t => markOf_set hr.mh.mks
   rw [h1] at c1 d1
   obtain ⟨g0, hg0, g1, g2, g3⟩ := h3 (by omega)
   refine ⟨⟨hrg, rfl, rfl, h.gt k hk, fun _ => yE _, ?_, ?_, ?_, fun j hj _ g hg _ _ => hg, ?_, fun x hx => hx⟩, fun _ => ?_⟩
   ·intro t
    simp only
    rw [hmk]
    split
    ·rename_i e; rw [e, h1]; omega
    ·exact yE _
   ·intro j hj hjk
    simp only
    rw [hmk]
    split
    ·rename_i e
     have : j = i := by omega
     subst this
     exact h2
    ·exact h.hs j k hj hk
   ·simp only
    rw [hmk, if_neg (by omega)]
    exact h.hs k k hk hk
   ·intro x
    have hap := (meet0 hu.v.1).1 d2
    have hd : ind all[k].left x + ind L.uses x ≤ 1 := by
     have a := ind_le (l := all[k].left) (x := x)
     have b := ind_le (l := L.uses) (x := x)
     by_cases c : inS L.uses x
     ·have := ind_zero.1 (hap x c); omega
     ·have := ind_zero.1 c; omega
    have hb := ind_both hr.l.v.1 hd
    generalize hP : ({ all[k] with left := bothS all[k].left L.uses, heard := setM all[k].heard L.frm L.serial } : Purse) = P
    have pme : P.me = k := by rw [← hP]; exact hme
    have pout : P.out = all[k].out := by rw [← hP]
    have ph : P.heard = setM all[k].heard L.frm L.serial := by rw [← hP]
    have hrow : plc all P x = plc all all[k] x + ind L.uses x := by
     unfold plc
     rw [sum_same (f := fun q => fl P q x) (g := fun q => fl all[k] q x) fun q _ => fl_p (pme.trans hme.symm) pout, ← hP]
     simp only
     omega
    have hfl : ∀ p ∈ all.set k P, fl p P x + (if p.me = i then ind L.uses x else 0) = fl p all[k] x := by
     intro p hp
     obtain ⟨j, hj, rfl⟩ := yN hp
     have hj' : j < all.length := by simpa using hj
     rw [vD]
     by_cases e : k = j
     ·subst e
      rw [if_pos rfl]
      unfold fl
      rw [if_pos rfl, if_pos (pme.trans hme.symm), if_neg (by rw [pme]; omega)]
     ·rw [if_neg e]
      obtain ⟨hrj, _, hmj⟩ := h.rt j hj'
      have c : all[j].me ≠ all[k].me := by omega
      have c' : all[j].me ≠ P.me := by omega
      rw [fl_abv c, fl_abv c', pme, hme, ph, hmk]
      by_cases d : all[j].me = i
      ·rw [if_pos d]
       have : j = i := by omega
       subst this
       rw [if_pos (by omega)]
       have := abv_one (x := x) hrj.g g0 hg0 g1 g2
       rw [g3] at this
       rw [← this, hmj]
       congr 1
       omega
      ·rw [if_neg d, if_neg (by omega), vY]
    have hcol : ∀ p ∈ all.set k P, plc (all.set k P) p x + (if p.me = i then ind L.uses x else 0) = plc all p x := by
     intro p hp
     have := sum_set (fun q => fl p q x) P all k hk
     have h4 := hfl p hp
     unfold plc
     omega
    have s1 := sum_same (l := all.set k P) (f := fun p => plc (all.set k P) p x + (if p.me = i then ind L.uses x else 0)) (g := fun p => plc all p x) hcol
    rw [sum_add, sum_me (off := 0) (fun j hj => by
     have hj' : j < all.length := by simpa using hj
     rw [vD]
     split
     ·rename_i e; subst e; rw [pme]; simp
     ·rw [(h.rt j hj').2.2]; simp) (by omega) (by rw [vO]; omega)] at s1
    have s2 := sum_set (fun p => plc all p x) P all k hk
    rw [hrow] at s2
    unfold tt
    show ((all.set k P).map fun p => plc (all.set k P) p x).sum = (all.map fun p => plc all p x).sum
    omega
   ·simp only
    rw [hmk, if_pos h1.symm]
    exact yE _
  ·rw [if_neg c2]
   exact ⟨same, fun h => by simp only at h; omega⟩
end Go.Fx.O
namespace Go.Fx.O
open Go Go.Fx Go.Proofs Go.Fx.R
set_option maxRecDepth 20000
theorem inv_hear {n : Nat} {all : List Purse} {way : List Ltr} {spent : List Int} (h : Inv n all way spent) {L : Ltr} (hL : L ∈ way) {k : Nat} (hk : k < all.length) (hto : L.to = k) : Inv n (all.set k (hearA all[k] L).1) (way ++ ansL all[k] L (hearA all[k] L).2) spent := by
 obtain ⟨h0, i, j, hi, hj, hne, h1, h2, h3⟩ := h.lt L hL
 obtain rfl : j = k := by omega
 obtain ⟨hr, hid, hme⟩ := h.rt j hj
 have key : Stp all j hj (hearA all[j] L).1 ∧ (0 < (hearA all[j] L).2 → (hearA all[j] L).2 ≤ markOf (hearA all[j] L).1.heard i) ∧ 0 ≤ (hearA all[j] L).2 := by
  unfold hearA
  split
  ·exact ⟨stp_same h hj, fun c => by simp only at c; omega, yE _⟩
  ·rename_i c
   have c' : outL all[j] L = false ∧ rightL L = true := by
    cases e1 : outL all[j] L <;> cases e2 : rightL L <;> simp_all
   split
   ·rename_i k1
    rcases h3 with ⟨_, a, b⟩ | ⟨k2, _⟩
    ·have hus : usB L.uses = true := by
      have := c'.2
      unfold rightL at this
      rw [if_pos k1] at this
      simp at this
      exact this.2
     obtain ⟨s1, s2⟩ := stp_gift h hi hj hne h1 a b (usB_iff.1 hus) c'.1
     refine ⟨s1, s2, ?_⟩
     have hc := c'.1
     unfold outL at hc
     simp only [uI, Bool.not_eq_false'] at hc
     have hs := hc.2
     unfold countsB at hs
     simp at hs
     unfold giftP
     split
     ·have := mark_b (who := L.frm) hr.mh
      simp only; omega
     ·split
      ·simp only; omega
      ·exact yE _
    ·omega
   ·rename_i k1
    rcases h3 with ⟨k2, _, _⟩ | ⟨k2, a⟩
    ·omega
    ·exact ⟨stp_ack h hi hj h1 a, fun c => by simp only at c; omega, yE _⟩
 obtain ⟨s1, s2, s3⟩ := key
 have hI := h.step s1
 refine ⟨hI.len, hI.rt, hI.gt, hI.hs, hI.tt, hI.sp, hI.nd, fun M hM => ?_⟩
 rcases yY.1 hM with hM | hM
 ·exact hI.lt M hM
 ·unfold ansL at hM
  split at hM
  ·cases hM
  ·rename_i hn
   rw [yZ] at hM
   subst hM
   refine ⟨hid, j, i, by simpa using hj, by simpa using hi, fun e => hne e.symm, hme, h1, .inr ⟨rfl, ?_⟩⟩
   rw [uJ]
   exact s2 (by omega)
theorem inv_send {n : Nat} {all : List Purse} {way : List Ltr} {spent : List Int} (h : Inv n all way spent) {k : Nat} (hk : k < all.length) : Inv n all (way ++ lettersP all[k]) spent := by
 obtain ⟨hr, hid, hme⟩ := h.rt k hk
 refine ⟨h.len, h.rt, h.gt, h.hs, h.tt, h.sp, h.nd, fun M hM => ?_⟩
 rcases yY.1 hM with hM | hM
 ·exact h.lt M hM
 ·unfold lettersP at hM
  obtain ⟨g, hg, rfl⟩ := List.mem_map.1 hM
  have hto := h.gt k hk g hg
  have hlen := h.len
  have hser : g.serial ≤ markOf all[k].sent g.to ∧ 1 ≤ g.serial ∧ isM all[k].sent g.to = true := by
   obtain ⟨j, hj, rfl⟩ := yN hg
   have := goodL_iff.1 hr.g j hj
   have hc := cnt_nn (l := all[k].out.drop (j + 1)) (t := all[k].out[j].to)
   exact ⟨by omega, this.2.2.2.2, this.1⟩
  have hne : g.to ≠ k := by
   obtain ⟨hp, hpe, _⟩ := posM_at hr.ms.mks hser.2.2
   have := (hr.ms.at hp).1.2.1
   omega
  refine ⟨hid, k, g.to.toNat, hk, by omega, by omega, hme, by show g.to = _; omega, .inl ⟨rfl, ?_, fun _ => ⟨g, hg, by omega, rfl, rfl⟩⟩⟩
  rw [show ((g.to.toNat : Nat) : Int) = g.to by omega]
  exact hser.1
theorem inv_spend {n : Nat} {all : List Purse} {way : List Ltr} {spent : List Int} (h : Inv n all way spent) {k : Nat} (hk : k < all.length) : Inv n (all.set k (spendP all[k]).1) way (if (spendP all[k]).2.2 = 0 then spent ++ [(spendP all[k]).2.1] else spent) := by
 have hI := h.step (stp_spend h hk)
 obtain ⟨hr, hid, hme⟩ := h.rt k hk
 split
 ·rename_i e
  have hin : inS all[k].left (spendP all[k]).2.1 ∧ inS (spendP all[k]).1.spent (spendP all[k]).2.1 := by
   unfold spendP at e ⊢
   split at e
   ·simp at e
   ·rename_i c
    rw [if_neg c]
    split at e
    ·simp at e
    ·rename_i c2
     rw [if_neg c2]
     have h1 := take1_ne hr.l.v c
     simp only
     rw [headD_get h1]
     have h2 := inS_lo (sep_takeS hr.l.v.1 (n := 1)) (yH h1)
     exact ⟨takeS_in h2, (in_bothS hr.s.v.1).2 (.inr h2)⟩
  have hnew : (spendP all[k]).2.1 ∉ spent := by
   intro hx
   obtain ⟨i, hi, hs⟩ := h.sp _ hx
   have ht := h.tt (spendP all[k]).2.1
   generalize (spendP all[k]).2.1 = x at *
   have h1 := ind_pos.1 hin.1
   have h2 := ind_pos.1 hs
   by_cases c : i = k
   ·subst c
    exact hr.a x hin.1 hs
   ·have s1 := sum_set (fun p => plc all p x) default all k hk
    have s2 := sum_set (fun p => plc all p x) default (all.set k default) i (by simpa using hi)
    rw [List.getElem_set_ne (fun e => c e.symm)] at s2
    have p1 : 1 ≤ plc all all[k] x := by unfold plc; omega
    have p2 : 1 ≤ plc all all[i] x := by unfold plc; omega
    have p3 : plc all default x = 0 := by
     unfold plc
     rw [sum_zero]
     ·rfl
     ·intro q _
      unfold fl
      split <;> rfl
    unfold tt at ht
    split at ht <;> omega
  refine ⟨hI.len, hI.rt, hI.gt, hI.hs, hI.tt, fun x hx => ?_, ?_, hI.lt⟩
  ·rcases yY.1 hx with hx | hx
   ·exact hI.sp x hx
   ·rw [yZ] at hx
    subst hx
    exact ⟨k, by simpa using hk, by rw [uJ]; exact hin.2⟩
  ·rw [List.nodup_append]
   exact ⟨h.nd, by simp, fun a ha b hb => by rw [yZ] at hb; subst hb; intro e; subst e; exact hnew ha⟩
 ·exact hI
end Go.Fx.O
namespace Go.Fx.O
open Go Go.Fx Go.Proofs Go.Fx.R
set_option maxRecDepth 20000
theorem fl_nil {p q : Purse} {x : Int} (h : p.out = []) : fl p q x = 0 := by
 unfold fl
 rw [h]
 split <;> rfl
theorem Inv.way {n : Nat} {all : List Purse} {way way' : List Ltr} {spent : List Int} (h : Inv n all way spent) (hw : ∀ L ∈ way', L ∈ way) : Inv n all way' spent :=
 ⟨h.len, h.rt, h.gt, h.hs, h.tt, h.sp, h.nd, fun L hL => h.lt L (hw L hL)⟩
theorem Inv.range {n : Nat} {all : List Purse} {way : List Ltr} {spent : List Int} (h : Inv n all way spent) {x : Int} (hx : x ∈ spent) : 1 ≤ x ∧ x ≤ n := by
 obtain ⟨i, hi, hs⟩ := h.sp x hx
 have ht := h.tt x
 have h2 := ind_pos.1 hs
 have s1 := sum_set (fun p => plc all p x) default all i hi
 have p1 : 1 ≤ plc all all[i] x := by unfold plc; omega
 have p3 : plc all default x = 0 := by
  unfold plc
  rw [sum_zero]
  ·rfl
  ·intro q _
   unfold fl
   split <;> rfl
 unfold O.tt at ht
 split at ht <;> omega
def begP (n : Nat) (k : Nat) : Purse := (newP id1 k (if k = 0 then n else 0)).1
theorem begP_eq {n k : Nat} (hn : n ≤ 255) (hk : k < 4) : begP n k = ⟨id1, k, leftN (if k = 0 then n else 0), [], [], [], []⟩ := by
 unfold begP newP
 have h1 : partyB (k : Int) = true := by unfold partyB; simp; omega
 have h2 : decide ((if k = 0 then (n : Int) else 0) < 0) = false := by simp; split <;> omega
 have h2' : ¬ (1073741824 < if k = 0 then (n : Int) else 0) := by split <;> omega
 rw [h1, h2, if_neg (by simp), if_neg h2']
def begL (n : Nat) : List Purse := [begP n 0, begP n 1, begP n 2, begP n 3]
theorem leftN_us {n : Nat} (hn : n ≤ 255) : Us (leftN n) := by
 unfold leftN
 split
 ·exact us_of sep_nil (by simp) fun x hx => (inS_nil.1 hx).elim
 ·rename_i c
  refine us_of (sep_one.2 (by simp only; omega)) (by simp) fun x hx => ?_
  rw [inS_cons] at hx
  simp only [inS_nil, or_false] at hx
  omega
theorem beg_get {n i : Nat} (h : i < (begL n).length) : (begL n)[i] = begP n i := by
 match i, h with
 | 0, _ => rfl
 | 1, _ => rfl
 | 2, _ => rfl
 | 3, _ => rfl
 | i + 4, h => simp [begL] at h; omega
theorem inv_begin {n : Nat} (hn : n ≤ 255) : Inv n (begL n) [] [] := by
 have hl : (begL n).length = 4 := rfl
 have hg : ∀ i (h : i < (begL n).length), (begL n)[i] = ⟨id1, i, leftN (if i = 0 then n else 0), [], [], [], []⟩ := fun i h => by rw [beg_get h, begP_eq hn (by omega)]
 have hmk : MkOk [] = fun _ => True := by funext me; simp [MkOk]
 refine ⟨hl, fun i hi => ?_, fun i hi g hgg => ?_, fun i j hi hj => ?_, fun x => ?_, fun x hx => (by cases hx), .nil, fun L hL => (by cases hL)⟩
 ·rw [hg i hi]
  refine ⟨⟨by simp only; omega, ?_, us_of sep_nil (by simp) fun x hx => (inS_nil.1 hx).elim, fun x _ hx => inS_nil.1 hx, by rw [hmk]; trivial, by rw [hmk]; trivial, by simp, trivial⟩, rfl, rfl⟩
  by_cases c : i = 0
  ·simp only [if_pos c]; exact leftN_us hn
  ·simp only [if_neg c]; exact leftN_us (n := 0) (by omega)
 ·rw [hg i hi] at hgg; cases hgg
 ·rw [hg i hi, hg j hj]; exact yE _
 ·have e : ∀ i, i < 4 → plc (begL n) (begP n i) x = if i = 0 then ind (leftN n) x else 0 := fun i hi => by
   rw [begP_eq hn hi]
   unfold plc
   rw [sum_zero (f := fun q => fl _ q x) fun q _ => fl_nil rfl]
   by_cases c : i = 0
   ·simp [c, ind_nil]
   ·simp only [if_neg c]; rfl
  unfold tt
  simp only [begL, yJ, uD, yK, List.sum_nil]
  have e0 := e 0 (by omega)
  have e1 := e 1 (by omega)
  have e2 := e 2 (by omega)
  have e3 := e 3 (by omega)
  simp only [begL] at e0 e1 e2 e3
  rw [e0, e1, e2, e3]
  simp only [if_true, vY]
  have hx := ind_pos (l := leftN n) (x := x)
  have := ind_le (l := leftN n) (x := x)
  have hin : inS (leftN n) x ↔ 1 ≤ x ∧ x ≤ n := by
   unfold leftN
   split
   ·rw [inS_nil]; constructor
    ·intro h; exact h.elim
    ·intro h; omega
   ·rw [inS_cons]
    simp only [inS_nil, or_false]
    omega
  rw [hin] at hx
  by_cases c : 1 ≤ x ∧ x ≤ n
  ·rw [if_pos c]
   have := hx.1 c
   simp; omega
  ·rw [if_neg c]
   have : ¬ ind (leftN n) x = 1 := fun h => c (hx.2 h)
   simp; omega
end Go.Fx.O
namespace Go.Fx.O
open Go Go.Fx Go.Proofs Go.Fx.R
set_option maxRecDepth 20000
def hW (all : List Purse) (way : List Ltr) (spent : List Int) : List Blk := [.var [.sl 1 0 all.length, .sl 2 0 way.length, .sl 3 0 spent.length], .arr 22 (all.map Purse.enc), .arr 21 (way.map Ltr.enc), .arr 1 (spent.map encI)]
theorem ok28 (all : List Purse) (way : List Ltr) (spent : List Int) (n : Int) (hr : ∀ x ∈ spent, 1 ≤ x ∧ x ≤ n) (hd : spent.Nodup) (hl : spent.length ≤ 1000000) : OkN Tryz.prog 28 [.ptr 0 0 0, .i n] (hW all way spent) [] (IsA (.b true) (hW all way spent)) := by
 refine okN_of pol [0, 1, 2, 3] lw28 (by simp) (by simp [keepP, liveP, hW]) (by simp [hW]; omega) ?_
 unfold c28 hW
 simp -implicitDefEqProofs only [rX,ofConst,Nat.reduceAdd,cxN,args0]
 refine loopP_intro (fun k : Nat => ⟨[(5, .i k), (0, .ptr 0 0 0), (1, .i n)], [.var [.sl 1 0 all.length, .sl 2 0 way.length, .sl 3 0 spent.length], .arr 22 (all.map Purse.enc), .arr 21 (way.map Ltr.enc), .arr 1 (spent.map encI)], 0⟩) (fun k => k ≤ spent.length) (fun k => spent.length - k) 0 (by omega) ?_ ?_
 ·simp -implicitDefEqProofs only [rX,↓reduceIte,Nat.reduceEqDiff,reduceCtorEq,leE,leH,leB,leV,leVs,keepP,liveP,wfE,wfB,wfV,wfL,yF]
 rintro k hk
 unfold c28l0
 rcases yI k spent.length with hk' | hk'
 ·have h1 : decide ((k : Int) < (spent.length : Int)) = true := decide_eq_true (by omega)
  have hkk : (0 : Int) ≤ k ∧ (k : Int) < spent.length := ⟨by omega, by omega⟩
  have hb := hr _ (yH hk')
  have h2 : decide (spent[k] < 1) = false := decide_eq_false (by omega)
  have h3 : decide (n < spent[k]) = false := decide_eq_false (by omega)
  simp -implicitDefEqProofs only [rX,↓rY,rZ,ofConst,↓reduceIte,Nat.reduceEqDiff,arrSz,Nat.reduceAdd,reduceCtorEq,yA,h1,h2,h3]
  refine fun _ => ⟨hkk, hk', hkk, hk', ?_⟩
  refine loopP_intro (fun j : Nat => ⟨[(6, .i j), (5, .i k), (0, .ptr 0 0 0), (1, .i n)], [.var [.sl 1 0 all.length, .sl 2 0 way.length, .sl 3 0 spent.length], .arr 22 (all.map Purse.enc), .arr 21 (way.map Ltr.enc), .arr 1 (spent.map encI)], 4⟩) (fun j => j ≤ k) (fun j => k - j) 0 (by omega) ?_ ?_
  ·simp -implicitDefEqProofs only [rX,↓reduceIte,Nat.reduceEqDiff,reduceCtorEq,leE,leH,leB,leV,leVs,keepP,liveP,wfE,wfB,wfV,wfL,yF]
  rintro j hj
  unfold c28l1
  rcases yI j k with hj' | hj'
  ·have g1 : decide ((j : Int) < (k : Int)) = true := decide_eq_true (by omega)
   have hjj : (0 : Int) ≤ j ∧ (j : Int) < spent.length := ⟨by omega, by omega⟩
   have hjs : j < spent.length := by omega
   have g2 : (spent[j] == spent[k]) = false := by
    rw [beq_eq_false_iff_ne]
    intro e
    have := (List.nodup_iff_pairwise_ne.1 hd)
    exact vE.1 this j k hjs hk' hj' e
   simp -implicitDefEqProofs only [rX,↓rY,rZ,ofConst,↓reduceIte,Nat.reduceEqDiff,arrSz,Nat.reduceAdd,reduceCtorEq,leE,leH,leB,leV,leVs,keepP,liveP,wfE,wfB,wfV,wfL,yA,g1,g2]
   exact ⟨hjj, hjs, hkk, hk', by simp only [lo, hi]; omega, j + 1, ⟨by omega, by omega⟩, by simp⟩
  ·have g1 : decide ((j : Int) < (k : Int)) = false := decide_eq_false (by omega)
   simp -implicitDefEqProofs only [rX,↓rY,ofConst,↓reduceIte,Nat.reduceEqDiff,Nat.reduceAdd,reduceCtorEq,leE,leH,leB,leV,leVs,keepP,liveP,wfE,wfB,wfV,wfL,yA,g1]
   exact ⟨by simp only [lo, hi]; omega, k + 1, ⟨by omega, by omega⟩, by simp⟩
 ·have h1 : decide ((k : Int) < (spent.length : Int)) = false := decide_eq_false (by omega)
  simp -implicitDefEqProofs only [rX,↓rY,ofConst,↓reduceIte,Nat.reduceEqDiff,Nat.reduceAdd,reduceCtorEq,yA,h1]
  intro _
  rw [retP_isA]
  simp -implicitDefEqProofs only [rX,↓reduceIte,Nat.reduceAdd,resP,tupV,leH,leB,leV,leVs,keepP,liveP,wfB,wfV,wfL]
end Go.Fx.O
namespace Go.Fx.O
open Go Go.Fx Go.Proofs Go.Fx.R
set_option maxRecDepth 20000
abbrev PB (l : List Purse) : V := .bro 22 (l.map Purse.enc)
theorem ok25b (all : List Purse) (hv : ∀ p ∈ all, PurV p) : Ok 25 [PB all] (Is (.tup [spans (knownF all).1, .b (knownF all).2])) := by
 refine okN_gv ?_
 refine ok_of lw25 (by simp) ?_
 unfold c25
 simp -implicitDefEqProofs only [rX,↓rY,ofConst,cells?,splice,↓reduceIte,Nat.reduceEqDiff,Nat.reduceAdd,reduceCtorEq,freshP,isC,cxN,yC,yA,args0]
 intro hm
 refine loopP_ghost (.virt 1 2 (by decide) (.nilB 0 [.nil] [.sl 2 0 0] rfl ⟨rfl, fun i x y h1 h2 => by
  cases i with
  | zero => simp at h1 h2; subst h1 h2; exact .inr ⟨rfl, 2, rfl⟩
  | succ i => simp at h1⟩ (.give (fun j => j == 2) (by simp) (.refl _)))) (fun k : Nat => ⟨[(16, .i k), (15, .i all.length), (14, PB all), (6, .clo 56 [.ptr 1 0 0, .ptr 0 0 0]), (5, .ptr 1 0 0), (4, .ptr 0 0 0), (0, PB all)], [.var [spans ((all.take k).foldl (kp all) ([], true)).1], .var [.b ((all.take k).foldl (kp all) ([], true)).2]], 2⟩) (fun k => k ≤ all.length) (fun k => all.length - k) 0 (by omega) ?_ ?_
 ·simp -implicitDefEqProofs only [rX,↓reduceIte,Nat.reduceEqDiff,Nat.reduceAdd,reduceCtorEq,leE,leH,leB,keepP,liveP,wfE,wfB,wfV,wfL,yF,yP,St.give,gvE,gvV,gvL,gvH,gvB,vH]
  exact ⟨⟨rfl, rfl, rfl⟩, ⟨rfl, trivial⟩, rfl, trivial⟩
 rintro k hk
 have hvd : Vd ((all.take k).foldl (kp all) ([], true)).1 := kp_vd (fun g hg => hv g (vR hg)) vd_nil
 unfold c25l0
 rcases yI k all.length with hk' | hk'
 ·have hd : decide ((k : Int) < (all.length : Int)) = true := decide_eq_true (by omega)
  have hkk : (0 : Int) ≤ k ∧ (k : Int) < all.length := ⟨by omega, by omega⟩
  have hpk := hv _ (yH hk')
  have hst := foldl_take (f := kp all) (b := (([], true) : List Sp × Bool)) hk'
  generalize (all.take k).foldl (kp all) ([], true) = a at hvd hst ⊢
  simp -implicitDefEqProofs only [rX,↓rY,ofConst,cells?,splice,↓reduceIte,Nat.reduceEqDiff,Nat.reduceAdd,freshP,isC,zc22,yC,yB,yA,hd]
  refine ⟨hkk, hk', ?_⟩
  refine call_isN [1, 0] [spans all[k].left, .ptr 0 0 0, .ptr 1 0 0] (.tup []) (.tup []) [.var [.b a.2], .var [spans a.1]] [.var [.b (putS a all[k].left).2], .var [spans (putS a all[k].left).1]] _ (ok56 all[k].left a hpk.l hvd) ⟨by simp, by simp⟩ rfl ?_ (by simp) rfl rfl ?_ ?_
  ·simp [lendsOk, lendOk, lends, lend, wkL, wk, wkR, pos]
  ·trivial
  simp -implicitDefEqProofs only [rX,↓rY,↓reduceIte,Nat.reduceEqDiff,Nat.reduceAdd,setAll,renB,r_sp,r_b]
  have hvd1 := putS_vd hvd hpk.l
  generalize ha1 : putS a all[k].left = a1 at hvd1 ⊢
  refine call_isN [1, 0] [spans all[k].spent, .ptr 0 0 0, .ptr 1 0 0] (.tup []) (.tup []) [.var [.b a1.2], .var [spans a1.1]] [.var [.b (putS a1 all[k].spent).2], .var [spans (putS a1 all[k].spent).1]] _ (ok56 all[k].spent a1 hpk.s hvd1) ⟨by simp, by simp⟩ rfl ?_ (by simp) rfl rfl ?_ ?_
  ·simp [lendsOk, lendOk, lends, lend, wkL, wk, wkR, pos]
  ·trivial
  simp -implicitDefEqProofs only [rX,↓rY,ofConst,↓reduceIte,Nat.reduceAdd,reduceCtorEq,setAll,renB,r_sp,r_b]
  have hvd2 := putS_vd hvd1 hpk.s
  generalize ha2 : putS a1 all[k].spent = a2 at hvd2 ⊢
  have hkp : kp all a all[k] = all.foldl (kq all[k]) a2 := by unfold kp; rw [ha1, ha2]
  intro hm2
  refine loopP_intro (fun j : Nat => ⟨[(30, .i j), (29, .i all.length), (28, PB all), (8, .ptr 2 0 0), (17, V.b true), (16, V.i ↑k), (15, V.i ↑all.length), (14, PB all), (6, V.clo 56 [V.ptr 1 0 0, V.ptr 0 0 0]), (5, V.ptr 1 0 0), (4, V.ptr 0 0 0), (0, PB all)], [.var [spans ((all.take j).foldl (kq all[k]) a2).1], .var [.b ((all.take j).foldl (kq all[k]) a2).2], .var all[k].enc], 3⟩) (fun j => j ≤ all.length) (fun j => all.length - j) 0 (by omega) ?_ ?_
  ·simp -implicitDefEqProofs only [rX,↓reduceIte,Nat.reduceEqDiff,reduceCtorEq,leE,leH,leB,leV,leVs,keepP,liveP,wfE,wfB,wfV,wfL,yF,vH]
  rintro j hj
  have hvj : Vd ((all.take j).foldl (kq all[k]) a2).1 := kq_vd hpk hvd2
  unfold c25l1
  rcases yI j all.length with hj' | hj'
  ·have hd2 : decide ((j : Int) < (all.length : Int)) = true := decide_eq_true (by omega)
   have hjj : (0 : Int) ≤ j ∧ (j : Int) < all.length := ⟨by omega, by omega⟩
   have hpj := hv _ (yH hj')
   have hsj := foldl_take (f := kq all[k]) (b := a2) hj'
   generalize (all.take j).foldl (kq all[k]) a2 = c at hvj hsj ⊢
   simp -implicitDefEqProofs only [rX,↓rY,ofConst,cells?,splice,↓reduceIte,Nat.reduceEqDiff,Nat.reduceAdd,freshP,isC,zc22,yC,yB,yA,hd2]
   refine ⟨hjj, hj', ?_⟩
   refine call_is (ok55 all[k] all[j] hpk.u hpj.m hpj.n) (by simp [lendsOk, lendOk, lends, lend, wkL, wk, wkR]) rfl trivial ?_
   have hput := putS_vd (a := (c.1, c.2 && (flyP all[k] all[j]).2)) hvj (hpk.fly (q := all[j]))
   have h56 := ok56 (flyP all[k] all[j]).1 (c.1, c.2 && (flyP all[k] all[j]).2) (hpk.fly (q := all[j])) hvj
   have hkq : kq all[k] c all[j] = putS (c.1, c.2 && (flyP all[k] all[j]).2) (flyP all[k] all[j]).1 := rfl
   rw [hkq] at hsj
   generalize flyP all[k] all[j] = f at *
   cases hc2 : c.2 with
   | true =>
    simp -implicitDefEqProofs only [rX,↓rY,cells?,splice,↓reduceIte,Nat.reduceEqDiff,Nat.reduceAdd,isC,yC,yA]
    have hcb : (c.2 && f.2) = f.2 := by rw [hc2]; simp
    rw [hcb] at h56 hsj hput
    refine call_isN [1, 0] [spans f.1, .ptr 0 0 0, .ptr 1 0 0] (.tup []) (.tup []) [.var [.b f.2], .var [spans c.1]] [.var [.b (putS (c.1, f.2) f.1).2], .var [spans (putS (c.1, f.2) f.1).1]] _ h56 ⟨by simp, by simp⟩ rfl ?_ (by simp) rfl rfl ?_ ?_
    ·simp [lendsOk, lendOk, lends, lend, wkL, wk, wkR, pos]
    ·trivial
    simp -implicitDefEqProofs only [rX,↓rY,ofConst,↓reduceIte,Nat.reduceEqDiff,Nat.reduceAdd,reduceCtorEq,leE,leH,leB,leV,leVs,keepP,liveP,wfE,wfB,wfV,wfL,yA,setAll,renB,r_sp,r_b]
    exact ⟨by simp only [lo, hi, maxLen] at *; omega, j + 1, ⟨by omega, by omega⟩, by simp, by rw [hsj], by rw [hsj]⟩
   | false =>
    simp -implicitDefEqProofs only [rX,↓rY,ofConst,cells?,splice,↓reduceIte,Nat.reduceEqDiff,Nat.reduceAdd,isC,yC,yA]
    have hcb : (c.2 && f.2) = false := by rw [hc2]; simp
    rw [hcb] at h56 hsj hput
    refine call_isN [1, 0] [spans f.1, .ptr 0 0 0, .ptr 1 0 0] (.tup []) (.tup []) [.var [.b false], .var [spans c.1]] [.var [.b (putS (c.1, false) f.1).2], .var [spans (putS (c.1, false) f.1).1]] _ h56 ⟨by simp, by simp⟩ rfl ?_ (by simp) rfl rfl ?_ ?_
    ·simp [lendsOk, lendOk, lends, lend, wkL, wk, wkR, pos]
    ·trivial
    simp -implicitDefEqProofs only [rX,↓rY,ofConst,↓reduceIte,Nat.reduceEqDiff,Nat.reduceAdd,reduceCtorEq,leE,leH,leB,leV,leVs,keepP,liveP,wfE,wfB,wfV,wfL,yA,setAll,renB,r_sp,r_b]
    exact ⟨by simp only [lo, hi, maxLen] at *; omega, j + 1, ⟨by omega, by omega⟩, by simp, by rw [hsj], by rw [hsj]⟩
  ·have hd2 : decide ((j : Int) < (all.length : Int)) = false := decide_eq_false (by omega)
   rw [yD hj'] at *
   simp -implicitDefEqProofs only [rX,↓rY,ofConst,↓reduceIte,Nat.reduceEqDiff,Nat.reduceAdd,reduceCtorEq,leE,leH,leB,leV,leVs,keepP,liveP,wfE,wfB,wfV,wfL,yA,hd2]
   rw [← hkp] at *
   exact ⟨by simp only [lo, hi, maxLen] at *; omega, k + 1, ⟨by omega, by omega⟩, by simp, by rw [hst], by rw [hst]⟩
 ·have hd : decide ((k : Int) < (all.length : Int)) = false := decide_eq_false (by omega)
  rw [yD hk'] at *
  simp -implicitDefEqProofs only [rX,↓rY,↓reduceIte,Nat.reduceEqDiff,Nat.reduceAdd,yA,hd]
  refine ret_data ?_
  simp -implicitDefEqProofs only [rX,↓reduceIte,Nat.reduceEqDiff,resP,tupV,wfV,wfL,yA]
  simp [Gv, tupV, gvV, gvL, wk, wkL, wkR, wfV, wfL, knownF]
end Go.Fx.O
namespace Go.Fx.O
open Go Go.Fx Go.Proofs Go.Fx.R
set_option maxRecDepth 20000
def begT (n : Nat) (k : Nat) : List Purse := (List.range k).map (begP n)
theorem begT_len {n k : Nat} : (begT n k).length = k := by simp [begT]
theorem begT_succ {n k : Nat} : begT n (k + 1) = begT n k ++ [begP n k] := by simp [begT, List.range_succ]
theorem ok23 (n : Nat) (hn : n ≤ 255) : Ok 23 [.i n] (IsA (.agg [.sl 2 0 4, .nil, .nil]) [.dead, .dead, .arr 22 ((begL n).map Purse.enc)]) := by
 refine ok_of lw23 (by simp) ?_
 unfold c23
 simp -implicitDefEqProofs only [rX,↓rY,ofConst,cells?,splice,↓reduceIte,Nat.reduceEqDiff,Nat.reduceAdd,freshP,buildP,isC,cxN,yC,yA,args0]
 refine loopP_ghost (.virt 1 22 (by decide) (.nilB 1 [.nil, .nil, .nil] [.sl 2 0 0, .nil, .nil] rfl ⟨rfl, fun i x y h1 h2 => by
  match i with
  | 0 => simp at h1 h2; subst h1 h2; exact .inr ⟨rfl, 2, rfl⟩
  | 1 => simp at h1 h2; subst h1 h2; exact .inl rfl
  | 2 => simp at h1 h2; subst h1 h2; exact .inl rfl
  | i + 3 => simp at h1⟩ (.refl _))) (fun k : Nat => ⟨[(4, .i k), (3, .ptr 1 0 0), (2, .ptr 0 0 0), (0, .i n)], [.var [.nil, .nil, .nil], .var [.sl 2 0 k, .nil, .nil], .arr 22 ((begT n k).map Purse.enc)], 2⟩) (fun k => k ≤ 4) (fun k => 4 - k) 0 (by omega) ?_ ?_
 ·simp -implicitDefEqProofs only [rX,↓reduceIte,Nat.reduceEqDiff,reduceCtorEq,leE,leH,leB,leV,leVs,keepP,liveP,wfE,wfB,wfV,wfL,yF,yP]
  rfl
 rintro k hk
 unfold c23l0
 rcases yI k 4 with hk' | hk'
 ·have h1 : decide ((k : Int) < 4) = true := decide_eq_true (by omega)
  by_cases h0 : k = 0
  ·have h2 : ((k : Int) == 0) = true := by simp [h0]
   simp -implicitDefEqProofs only [rX,↓rY,ofConst,cells?,splice,↓reduceIte,Nat.reduceEqDiff,Nat.reduceAdd,reduceCtorEq,buildP,isC,Nat.reduceLeDiff,yC,yB,yA,h1,h2]
   have hb : (newP id1 k n).1 = begP n k := by unfold begP; rw [if_pos h0]
   refine call_is (ok29 id1 k n (by omega)) (by simp [lendsOk, lendOk, lends, lend, wkL, wk, wkR, id1]) rfl trivial ?_
   rw [hb]
   generalize hq : begP n k = q
   have htk : yG k ((begT n k).map Purse.enc) = (begT n k).map Purse.enc := yD (by simp [begT_len])
   simp -implicitDefEqProofs only [rX,↓rY,ofConst,cells?,splice,↓reduceIte,Nat.reduceEqDiff,Nat.reduceAdd,reduceCtorEq,freshP,litsP,leE,leH,leB,leV,leVs,keepP,liveP,wfE,wfB,wfV,wfL,killE,killB,kill,kills,St.kill,isD,isC,Nat.reduceLT,Nat.reduceLeDiff,zc22,yC,yB,yA,htk,↓op_litsf,↓frzP_n,↓frzP_c,↓frzQ_a]
   refine ⟨⟨by rw [begT_len]; exact vB _, by omega⟩, by simp only [lo, hi]; omega, k + 1, ⟨by omega, by omega⟩, by simp, rfl, ?_⟩
   rw [begT_succ, hq, yL]
   rfl
  ·have h2 : ((k : Int) == 0) = false := by simp [h0]
   simp -implicitDefEqProofs only [rX,↓rY,ofConst,cells?,splice,↓reduceIte,Nat.reduceEqDiff,Nat.reduceAdd,reduceCtorEq,buildP,isC,Nat.reduceLeDiff,yC,yB,yA,h1,h2]
   have hb : (newP id1 k 0).1 = begP n k := by unfold begP; rw [if_neg h0]
   refine call_is (ok29 id1 k 0 (by omega)) (by simp [lendsOk, lendOk, lends, lend, wkL, wk, wkR, id1]) rfl trivial ?_
   rw [hb]
   generalize hq : begP n k = q
   have htk : yG k ((begT n k).map Purse.enc) = (begT n k).map Purse.enc := yD (by simp [begT_len])
   simp -implicitDefEqProofs only [rX,↓rY,ofConst,cells?,splice,↓reduceIte,Nat.reduceEqDiff,Nat.reduceAdd,reduceCtorEq,freshP,litsP,leE,leH,leB,leV,leVs,keepP,liveP,wfE,wfB,wfV,wfL,killE,killB,kill,kills,St.kill,isD,isC,Nat.reduceLT,Nat.reduceLeDiff,zc22,yC,yB,yA,htk,↓op_litsf,↓frzP_n,↓frzP_c,↓frzQ_a]
   refine ⟨⟨by rw [begT_len]; exact vB _, by omega⟩, by simp only [lo, hi]; omega, k + 1, ⟨by omega, by omega⟩, by simp, rfl, ?_⟩
   rw [begT_succ, hq, yL]
   rfl
 ·have h1 : decide ((k : Int) < 4) = false := decide_eq_false (by omega)
  obtain rfl : k = 4 := by omega
  simp -implicitDefEqProofs only [rX,↓rY,ofConst,cells?,splice,↓reduceIte,Nat.reduceEqDiff,Nat.reduceAdd,reduceCtorEq,buildP,isC,Nat.reduceLeDiff,yC,yB,yA,h1]
  rw [retP_isA]
  simp -implicitDefEqProofs only [rX,↓rY,↓reduceIte,Nat.reduceEqDiff,Nat.reduceAdd,resP,tupV,leH,leB,keepP,liveP,wfB,wfV,wfL,Nat.reduceLeDiff,yB,yA]
  rfl
end Go.Fx.O
namespace Go.Fx.O
open Go Go.Fx Go.Proofs Go.Fx.R
set_option maxRecDepth 20000
theorem p_set {all : List Purse} {k : Nat} {q : Purse} : (all.map Purse.enc).set k q.enc = (all.set k q).map Purse.enc := by rw [List.map_set]
theorem do0 (all : List Purse) (way : List Ltr) (spent : List Int) (kind party to m : Int) (h1 : kind.tmod 5 = 0) (h2 : 0 ≤ party ∧ party ≤ 255) (h4 : all.length = 4) (hs : spent.length ≤ 1000)
  (k : Nat) (hk : k < all.length) (hkp : party.tmod 4 = k) (hr : Rt all[k]) : OkN Tryz.prog 24 [.ptr 0 0 0, .agg [u8 kind, u8 party, u8 to, u8 m]] (hW all way spent) [2, 3] (IsA (.tup []) (hW (all.set k (spendP all[k]).1) way (if (spendP all[k]).2.2 = 0 then spent ++ [(spendP all[k]).2.1] else spent))) := by
 refine okN_of pol [0, 1] lw24 (by simp) (by simp [keepP, liveP, hW]) (by simp [hW]; omega) ?_
 unfold c24 hW
 have e0 : ((0 : Int) == 0) = true := rfl
 simp -implicitDefEqProofs only [rX,↓rY,rdK,ofConst,cells?,splice,↓reduceIte,Nat.reduceEqDiff,arrSz,Nat.reduceAdd,reduceCtorEq,freshP,slcOk,litsP,killE,killB,kill,kills,St.kill,isC,Nat.reduceLeDiff,cxN,zc22,zc21,yC,yB,yA,args0,h1,hkp,e0]
 refine ⟨by simp only [lo, hi]; omega, by decide, by decide, by omega, hk, ?_⟩
 refine call_is (ok10 all[k] hr.l.v hr.s.v) (by simp [lendsOk, lendOk, lends, lend, wkL, wk, wkR]) rfl (by simp [keepP, liveP]) ?_
 generalize spendP all[k] = r
 obtain ⟨q, u, e⟩ := r
 simp -implicitDefEqProofs only [rX,↓rY,ofConst,cells?,splice,↓reduceIte,Nat.reduceEqDiff,arrSz,Nat.reduceAdd,reduceCtorEq,freshP,litsP,killE,killB,kill,kills,St.kill,isD,isC,Nat.reduceLT,zc22,yC,yB,yA]
 refine ⟨by omega, hk, ?_⟩
 have hset : (all.map Purse.enc).set k [u8 q.id.a0, u8 q.id.a1, u8 q.id.a2, u8 q.id.a3, u8 q.id.a4, u8 q.id.a5, u8 q.id.a6, u8 q.id.a7, u8 q.id.a8, u8 q.id.a9, u8 q.id.a10, u8 q.id.a11, u8 q.id.a12, u8 q.id.a13, u8 q.id.a14, u8 q.id.a15, .i q.me, spans q.left, spans q.spent, spans q.sent, spans q.heard, gifts q.out] = (all.set k q).map Purse.enc := p_set
 have htk : yG spent.length (spent.map encI) = spent.map encI := yD (by simp)
 refine ⟨fun he => ⟨by omega, ?_⟩, fun he => ?_⟩
 ·have he' : e = 0 := by simpa using he
  rw [if_pos he', hset, htk, retP_isA]
  simp -implicitDefEqProofs only [rX,Nat.reduceAdd,resP,tupV,leH,leB,leV,leVs,keepP,liveP,wfB,wfV,wfL,yA,vO]
  rw [yL]
  rfl
 ·have he' : ¬ e = 0 := by simpa using he
  rw [if_neg he', hset, retP_isA]
  simp -implicitDefEqProofs only [rX,Nat.reduceAdd,resP,tupV,leH,leB,leV,leVs,keepP,liveP,wfB,wfV,wfL,vO]
end Go.Fx.O
namespace Go.Fx.O
open Go Go.Fx Go.Proofs Go.Fx.R
set_option maxRecDepth 20000
theorem do1 (all : List Purse) (way : List Ltr) (spent : List Int) (kind party to m : Int) (h1 : kind.tmod 5 = 1) (h2 : 0 ≤ party ∧ party ≤ 255) (h3 : 0 ≤ to ∧ to ≤ 255) (h5 : 0 ≤ m ∧ m ≤ 255)
  (k : Nat) (hk : k < all.length) (hkp : party.tmod 4 = k) (hr : Rt all[k]) : OkN Tryz.prog 24 [.ptr 0 0 0, .agg [u8 kind, u8 party, u8 to, u8 m]] (hW all way spent) [2, 3] (IsA (.tup []) (hW (all.set k (giveP all[k] (to.tmod 4) (m.tmod 8)).1) way spent)) := by
 refine okN_of pol [0, 1] lw24 (by simp) (by simp [keepP, liveP, hW]) (by simp [hW]; omega) ?_
 unfold c24 hW
 have e0 : ((1 : Int) == 0) = false := rfl
 have e1 : ((1 : Int) == 1) = true := rfl
 simp -implicitDefEqProofs only [rX,↓rY,rdK,ofConst,cells?,splice,↓reduceIte,Nat.reduceEqDiff,arrSz,Nat.reduceAdd,reduceCtorEq,freshP,slcOk,litsP,killE,killB,kill,kills,St.kill,isC,Nat.reduceLeDiff,cxN,zc22,zc21,yC,yB,yA,args0,h1,hkp,e0,e1]
 have hb : ∀ {x : Int}, 0 ≤ x ∧ x ≤ 255 → lo IntKind.i64 ≤ x ∧ x ≤ hi IntKind.i64 := fun h => by simp only [lo, hi]; omega
 refine ⟨hb h2, by decide, by decide, by omega, hk, hb h3, by decide, hb h5, by decide, ?_⟩
 refine call_is (ok11 all[k] (to.tmod 4) (m.tmod 8) hr.l.v hr.ms (hle hr)) (by simp [lendsOk, lendOk, lends, lend, wkL, wk, wkR]) rfl (by simp [keepP, liveP]) ?_
 generalize giveP all[k] (to.tmod 4) (m.tmod 8) = r
 obtain ⟨q, e⟩ := r
 have hset : ∀ q : Purse, (all.map Purse.enc).set k [u8 q.id.a0, u8 q.id.a1, u8 q.id.a2, u8 q.id.a3, u8 q.id.a4, u8 q.id.a5, u8 q.id.a6, u8 q.id.a7, u8 q.id.a8, u8 q.id.a9, u8 q.id.a10, u8 q.id.a11, u8 q.id.a12, u8 q.id.a13, u8 q.id.a14, u8 q.id.a15, .i q.me, spans q.left, spans q.spent, spans q.sent, spans q.heard, gifts q.out] = (all.set k q).map Purse.enc := fun q => p_set
 simp -implicitDefEqProofs only [rX,↓rY,cells?,splice,↓reduceIte,Nat.reduceEqDiff,arrSz,Nat.reduceAdd,isD,isC,yC,yA]
 refine ⟨by omega, hk, ?_⟩
 rw [p_set, retP_isA]
 simp -implicitDefEqProofs only [rX,Nat.reduceAdd,resP,tupV,leH,leB,leV,leVs,keepP,liveP,wfB,wfV,wfL,vO]
theorem do2 (all : List Purse) (way : List Ltr) (spent : List Int) (kind party to m : Int) (h1 : kind.tmod 5 = 2) (h2 : 0 ≤ party ∧ party ≤ 255) (hw : way.length ≤ 100000)
  (k : Nat) (hk : k < all.length) (hkp : party.tmod 4 = k) (hr : Rt all[k]) : OkN Tryz.prog 24 [.ptr 0 0 0, .agg [u8 kind, u8 party, u8 to, u8 m]] (hW all way spent) [2, 3] (IsA (.tup []) (hW all (if way.length < 200 then way ++ lettersP all[k] else way) spent)) := by
 refine okN_of pol [0, 1] lw24 (by simp) (by simp [keepP, liveP, hW]) (by simp [hW]; omega) ?_
 unfold c24 hW
 have e0 : ((2 : Int) == 0) = false := rfl
 have e1 : ((2 : Int) == 1) = false := rfl
 have e2 : ((2 : Int) == 2) = true := rfl
 simp -implicitDefEqProofs only [rX,↓rY,rdK,ofConst,cells?,splice,↓reduceIte,Nat.reduceEqDiff,arrSz,Nat.reduceAdd,reduceCtorEq,freshP,slcOk,litsP,killE,killB,kill,kills,St.kill,isC,Nat.reduceLeDiff,cxN,zc22,zc21,yC,yB,yA,args0,h1,hkp,e0,e1,e2]
 have hb : ∀ {x : Int}, 0 ≤ x ∧ x ≤ 255 → lo IntKind.i64 ≤ x ∧ x ≤ hi IntKind.i64 := fun h => by simp only [lo, hi]; omega
 refine ⟨hb h2, by decide, by decide, ?_⟩
 intro _
 have hlt : ∀ l : List Ltr, yG way.length (way.map Ltr.enc) = way.map Ltr.enc := fun _ => yD (by simp)
 have hlen : (lettersP all[k]).length ≤ 64 := by unfold lettersP; rw [List.length_map]; exact hr.n
 by_cases hc : way.length < 200
 ·have hd : decide ((way.length : Int) < 200) = true := decide_eq_true (by omega)
  rw [hd, if_pos hc]
  refine ⟨fun _ => ⟨by omega, hk, ?_⟩, fun h => (by cases h)⟩
  refine call_is (ok16 all[k] (hle hr) fun g hg => vC (hr.uv g hg).n (by omega)) (by simp [lendsOk, lendOk, lends, lend, wkL, wk, wkR]) rfl (by simp [keepP, liveP]) ?_
  generalize lettersP all[k] = A at hlen ⊢
  simp -implicitDefEqProofs only [rX,↓rY,cells?,splice,↓reduceIte,Nat.reduceEqDiff,Nat.reduceAdd,reduceCtorEq,killE,killB,kill,kills,St.kill,isC,Nat.reduceLeDiff,yC,yB,yA]
  refine ⟨.inr trivial, by omega, ?_⟩
  rw [hlt way, ← yL, retP_isA]
  simp -implicitDefEqProofs only [rX,Nat.reduceAdd,resP,tupV,leH,leB,leV,leVs,keepP,liveP,wfB,wfV,wfL]
 ·have hd : decide ((way.length : Int) < 200) = false := decide_eq_false (by omega)
  rw [hd, if_neg hc]
  refine ⟨fun h => (by cases h), fun _ => ?_⟩
  rw [retP_isA]
  simp -implicitDefEqProofs only [rX,Nat.reduceAdd,resP,tupV,leH,leB,leV,leVs,keepP,liveP,wfB,wfV,wfL]
end Go.Fx.O
namespace Go.Fx.O
open Go Go.Fx Go.Proofs Go.Fx.R
set_option maxRecDepth 20000
theorem do34n (all : List Purse) (spent : List Int) (kind party to m : Int) (h1 : kind.tmod 5 = 3 ∨ kind.tmod 5 = 4) (h2 : 0 ≤ party ∧ party ≤ 255) : OkN Tryz.prog 24 [.ptr 0 0 0, .agg [u8 kind, u8 party, u8 to, u8 m]] (hW all [] spent) [2, 3] (IsA (.tup []) (hW all [] spent)) := by
 refine okN_of pol [0, 1] lw24 (by simp) (by simp [keepP, liveP, hW]) (by simp [hW]; omega) ?_
 unfold c24 hW
 have e0 : (kind.tmod 5 == 0) = false := by rw [beq_eq_false_iff_ne]; omega
 have e1 : (kind.tmod 5 == 1) = false := by rw [beq_eq_false_iff_ne]; omega
 have e2 : (kind.tmod 5 == 2) = false := by rw [beq_eq_false_iff_ne]; omega
 have e3 : (((0 : Nat) : Int) == 0) = true := rfl
 simp -implicitDefEqProofs only [rX,↓rY,rdK,ofConst,cells?,splice,↓reduceIte,Nat.reduceEqDiff,arrSz,Nat.reduceAdd,reduceCtorEq,freshP,slcOk,litsP,killE,killB,kill,kills,St.kill,isC,Nat.reduceLeDiff,cxN,zc22,zc21,yC,yB,yA,args0,e0,e1,e2,e3]
 have hb : ∀ {x : Int}, 0 ≤ x ∧ x ≤ 255 → lo IntKind.i64 ≤ x ∧ x ≤ hi IntKind.i64 := fun h => by simp only [lo, hi]; omega
 refine ⟨hb h2, by decide, by decide, fun _ => ?_⟩
 rw [retP_isA]
 simp -implicitDefEqProofs only [rX,Nat.reduceAdd,resP,tupV,leH,leB,leV,leVs,keepP,liveP,wfB,wfV,wfL]
end Go.Fx.O
