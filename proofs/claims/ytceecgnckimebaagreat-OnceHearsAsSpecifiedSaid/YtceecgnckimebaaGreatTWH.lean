import Derived.Test.YtceecgnckimebaaGreatT11
import Derived.Test.YtceecgnckimebaaGreatOCode
set_option linter.unusedVariables false
set_option linter.unusedSimpArgs false
set_option linter.unusedSectionVars false
open Bool renaming true_and → yA, and_eq_true → yM, eq_iff_iff → vF, false_eq_true → vV
open List renaming take_succ_cons → yB, drop_succ_cons → yC, take_of_length_le → yD, take → yF, getElem_mem → yH, filter_cons_of_neg → yI, take_add_one → yJ, getElem?_eq_getElem → yK, replicate_succ → yL, mem_cons → yN, map → yO, map_append → yP, filter_eq_nil_iff → yS, length_take → yT, filter_eq_self → yV, filter_cons_of_pos → yW, foldl_cons → yX, getElem_of_mem → yY, find?_cons_of_neg → yZ, foldl_nil → vA, mem_filter → vB, length_append → vC, foldl_append → vD, pairwise_iff_getElem → vE, length_eq_zero_iff → vH, mem_of_mem_take → vI, filter_append → vJ, length_cons → vM, find?_cons_of_pos → vN, length_filter_le → vO, filter_nil → vP, filter_cons → vQ, mem_append → vR, mem_singleton → vS, append_nil → vT, any_eq_false → vU, length_singleton → vW, map_cons → vX, map_nil → vY, getElem_cons_succ → uA, getElem_cons_zero → uB
open Int renaming natCast_zero → yE, toNat → yQ, lt_trichotomy → vL, cast_ofNat_Int → vZ
open Nat renaming lt_or_ge → yG, le_trans → yU, le_refl → vG, not_lt_zero → vK
namespace Go.Fx.O
open Go Go.Fx Go.Proofs Go.Fx.R
set_option maxRecDepth 20000
theorem cut1_len {s t : Sp} : (cut1 s t).length ≤ 2 := by
 unfold cut1
 split <;> split <;> simp
theorem ok67 (l : List Sp) (s : Sp) (hl : l.length ≤ 2199023255552) : Ok 67 [spans l, .agg (enS s)] (Is (spans (cutS l s))) := by
 refine okN_gv ?_
 refine ok_of lw67 (by simp) ?_
 unfold c67 spans
 simp -implicitDefEqProofs only [rX,↓rY,ofConst,cells?,↓reduceIte,Nat.reduceEqDiff,reduceCtorEq,freshP,cxN,enS_len,enS_take,args0]
 refine call_is (ok81 s) ⟨⟨⟨trivial, trivial, trivial⟩, trivial⟩, ⟨rfl, rfl, trivial⟩, trivial⟩ rfl trivial ?_
 cases hs : decide (s.2 ≤ s.1) with
 | true =>
  simp -implicitDefEqProofs only [rX,↓rY,↓reduceIte,Nat.reduceEqDiff,reduceCtorEq,freshP,litsP,killE,killB,kill,St.kill,enS_kill]
  have e : cutS l s = l := if_pos (by simpa using hs)
  refine ⟨by simp, by omega, ?_⟩
  refine ret_sl rfl (sz := 2) ?_ ?_
  ·rw [e]; rfl
  ·rw [e]; simp
 | false =>
  have e : cutS l s = l.flatMap (cut1 s) := if_neg (by simpa using hs)
  simp -implicitDefEqProofs only [rX,↓rY,ofConst,↓reduceIte]
  refine loopP_ghost (.virt 1 2 (by decide) (.nilE 5 1 rfl (.refl _))) (fun k : Nat => ⟨[(6, .i k), (5, .sl 1 0 ((l.take k).flatMap (cut1 s)).length), (3, .ptr 0 0 0), (0, .ro 2 (l.map enS))], [.var [.i s.1, .i s.2], .arr 2 (((l.take k).flatMap (cut1 s)).map enS)], 0⟩)
   (fun k => k ≤ l.length ∧ ((l.take k).flatMap (cut1 s)).length ≤ 2 * k) (fun k => l.length - k) 0 ⟨by omega, by simp⟩ ?_ ?_
  ·simp -implicitDefEqProofs only [rX,↓reduceIte,Nat.reduceEqDiff,reduceCtorEq,leE,leH,leB,leV,leVs,keepP,liveP,wfE,wfB,wfV,wfL,yE,yL,enS,List.flatMap_nil]
  rintro k ⟨hk, hol⟩
  generalize ho : (l.take k).flatMap (cut1 s) = o at hol
  unfold c67l0
  simp -implicitDefEqProofs only [rX,↓rY,rdK,ofConst,cells?,splice,↓reduceIte,Nat.reduceEqDiff,Nat.reduceAdd,reduceCtorEq,freshP,buildP,isC,Nat.reduceLeDiff,enS_0,enS_1]
  intro hm
  simp only [br, decide_eq_true_eq, decide_eq_false_iff_not]
  refine ⟨fun h => ?_, fun h => ?_⟩
  ·have hk' : k < l.length := by omega
   have hkk : (0 : Int) ≤ k ∧ (k : Int) < l.length := ⟨by omega, h⟩
   have hstep : (l.take (k + 1)).flatMap (cut1 s) = o ++ cut1 s l[k] := by
    rw [yJ, yK hk', List.flatMap_append, ho]; simp
   have hc2 := cut1_len (s := s) (t := l[k])
   have hend : ∀ (o' : List Sp) (n : Nat) (L : List (List V)), o' = o ++ cut1 s l[k] → n = o'.length → L = o'.map enS →
     ((lo IntKind.i64 ≤ (k : Int) + 1 ∧ (k : Int) + 1 ≤ hi IntKind.i64) ∧ ∃ g', ((g' ≤ l.length ∧ ((l.take g').flatMap (cut1 s)).length ≤ 2 * g') ∧ l.length - g' < l.length - k) ∧ ((k : Int) + 1 = (g' : Int) ∧ V.sl 1 0 n = V.sl 1 0 ((l.take g').flatMap (cut1 s)).length) ∧ Blk.arr 2 L = Blk.arr 2 (((l.take g').flatMap (cut1 s)).map enS)) := by
    rintro o' n L rfl rfl rfl
    refine ⟨by simp only [lo, hi, maxLen] at *; omega, k + 1, ⟨⟨by omega, by rw [hstep, vC]; omega⟩, by omega⟩, ?_⟩
    rw [hstep]
    exact ⟨⟨by simp, rfl⟩, rfl⟩
   have htk : yF o.length (o.map enS) = o.map enS := take_map rfl
   refine ⟨hkk, hk', hkk, hk', hkk, hk', hkk, hk', ?_⟩
   have hcut : cut1 s l[k] = (if min l[k].2 s.1 ≤ l[k].1 then [] else [(l[k].1, min l[k].2 s.1)]) ++ (if l[k].2 ≤ max l[k].1 s.2 then [] else [(max l[k].1 s.2, l[k].2)]) := rfl
   refine call_is (ok81 (l[k].1, min l[k].2 s.1)) ⟨⟨⟨trivial, trivial, trivial⟩, trivial⟩, ⟨rfl, rfl, trivial⟩, trivial⟩ rfl trivial ?_
   cases h1 : decide (min l[k].2 s.1 ≤ l[k].1) with
   | true =>
    simp -implicitDefEqProofs only [rX,↓rY,↓reduceIte,Nat.reduceEqDiff,Nat.reduceAdd]
    refine call_is (ok81 (max l[k].1 s.2, l[k].2)) ⟨⟨⟨trivial, trivial, trivial⟩, trivial⟩, ⟨rfl, rfl, trivial⟩, trivial⟩ rfl trivial ?_
    have h1' : min l[k].2 s.1 ≤ l[k].1 := by simpa using h1
    cases h2 : decide (l[k].2 ≤ max l[k].1 s.2) with
    | true =>
     have h2' : l[k].2 ≤ max l[k].1 s.2 := by simpa using h2
     simp -implicitDefEqProofs only [rX,↓rY,ofConst,↓reduceIte,Nat.reduceEqDiff,Nat.reduceAdd,reduceCtorEq,leE,leH,leB,leV,leVs,keepP,liveP,wfE,wfB,wfV,wfL]
     exact hend o _ _ (by rw [hcut, if_pos h1', if_pos h2']; simp) rfl rfl
    | false =>
     have h2' : ¬ l[k].2 ≤ max l[k].1 s.2 := by simpa using h2
     simp -implicitDefEqProofs only [rX,↓rY,ofConst,cells?,↓reduceIte,Nat.reduceEqDiff,Nat.reduceAdd,reduceCtorEq,freshP,litsP,leE,leH,leB,leV,leVs,keepP,liveP,wfE,wfB,wfV,wfL,killE,killB,kill,kills,St.kill,isD,Nat.reduceLT]
     refine ⟨by omega, ?_⟩
     exact hend (o ++ [(max l[k].1 s.2, l[k].2)]) _ _ (by rw [hcut, if_pos h1', if_neg h2']; simp) (by simp) (by rw [htk, yP]; rfl)
   | false =>
    have h1' : ¬ min l[k].2 s.1 ≤ l[k].1 := by simpa using h1
    simp -implicitDefEqProofs only [rX,↓rY,cells?,↓reduceIte,Nat.reduceEqDiff,Nat.reduceAdd,reduceCtorEq,freshP,litsP,killE,killB,kill,kills,St.kill,isD,Nat.reduceLT]
    refine ⟨by omega, ?_⟩
    refine call_is (ok81 (max l[k].1 s.2, l[k].2)) ⟨⟨⟨trivial, trivial, trivial⟩, trivial⟩, ⟨rfl, rfl, trivial⟩, trivial⟩ rfl trivial ?_
    cases h2 : decide (l[k].2 ≤ max l[k].1 s.2) with
    | true =>
     have h2' : l[k].2 ≤ max l[k].1 s.2 := by simpa using h2
     simp -implicitDefEqProofs only [rX,↓rY,ofConst,↓reduceIte,Nat.reduceEqDiff,Nat.reduceAdd,reduceCtorEq,leE,leH,leB,leV,leVs,keepP,liveP,wfE,wfB,wfV,wfL]
     exact hend (o ++ [(l[k].1, min l[k].2 s.1)]) _ _ (by rw [hcut, if_neg h1', if_pos h2']; simp) (by simp) (by rw [htk, yP]; rfl)
    | false =>
     have h2' : ¬ l[k].2 ≤ max l[k].1 s.2 := by simpa using h2
     simp -implicitDefEqProofs only [rX,↓rY,ofConst,cells?,↓reduceIte,Nat.reduceEqDiff,Nat.reduceAdd,reduceCtorEq,freshP,litsP,leE,leH,leB,leV,leVs,keepP,liveP,wfE,wfB,wfV,wfL,killE,killB,kill,kills,St.kill,isD,Nat.reduceLT,Nat.reduceLeDiff]
     refine ⟨⟨by simp, by omega⟩, ?_⟩
     refine hend (o ++ [(l[k].1, min l[k].2 s.1), (max l[k].1 s.2, l[k].2)]) _ _ (by rw [hcut, if_neg h1', if_neg h2']; simp) (by simp) ?_
     rw [htk, yD (by simp), yP]
     simp [enS]
  ·rw [yD (by omega)] at ho
   have e' : cutS l s = o := by rw [e, ho]
   rw [e']
   exact ret_sl rfl rfl (by simp)
theorem fold_cut {a b : List Sp} {k : Nat} (h : k < b.length) : minusS a (b.take (k + 1)) = cutS (minusS a (b.take k)) b[k] := by
 unfold minusS
 rw [yJ, yK h, vD]; rfl
theorem ok46 (a b : List Sp) (ha : Vd a) : Ok 46 [spans a, spans b] (Is (spans (minusS a b))) := by
 refine okN_gv ?_
 refine ok_of lw46 (by simp) ?_
 have hal := ha.len
 unfold c46 spans
 simp -implicitDefEqProofs only [rX,↓rY,ofConst,↓reduceIte,Nat.reduceEqDiff,Nat.reduceAdd,reduceCtorEq,freshP,litsP,killE,killB,kill,St.kill,cxN,args0]
 refine ⟨by simp, by omega, ?_⟩
 have htk : yF a.length (a.map enS) = a.map enS := take_map rfl
 refine loopP_ghost (.give (fun k => k == 0) (by simp) (.refl _)) (fun k : Nat => ⟨[(6, .i k), (5, .ro 2 ((minusS a (b.take k)).map enS)), (1, .ro 2 (b.map enS))], [], 0⟩) (fun k => k ≤ b.length) (fun k => b.length - k) 0 (by omega) ?_ ?_
 ·simp -implicitDefEqProofs only [rX,↓reduceIte,Nat.reduceEqDiff,reduceCtorEq,leE,leH,keepP,wfE,wfB,wfV,St.give,gvE,gvV,gvH,gvB,Nat.reduceBEq,yE,htk]
  rfl
 rintro k hk
 have hv : Vd (minusS a (b.take k)) := ha.minus
 have hvl := hv.len
 unfold c46l0
 simp -implicitDefEqProofs only [rX,↓rY,↓reduceIte,Nat.reduceEqDiff,enS_len,enS_take]
 intro hm
 simp only [br, decide_eq_true_eq, decide_eq_false_iff_not]
 refine ⟨fun h => ?_, fun h => ?_⟩
 ·have hk' : k < b.length := by omega
  refine ⟨⟨by omega, h⟩, hk', ?_⟩
  refine call_is (ok67 (minusS a (b.take k)) b[k] (by omega)) ⟨⟨trivial, ⟨trivial, trivial, trivial⟩, trivial⟩, ⟨rfl, rfl⟩, ⟨rfl, rfl, trivial⟩, trivial⟩ rfl trivial ?_
  simp -implicitDefEqProofs only [rX,↓rY,ofConst,↓reduceIte,Nat.reduceEqDiff,leE,leH,keepP,wfE,wfB,wfV]
  refine ⟨by simp only [lo, hi, maxLen] at *; omega, k + 1, ⟨by omega, by omega⟩, ?_⟩
  rw [fold_cut hk']
  simp
 ·rw [yD (by omega)]
  exact ret_ro rfl
theorem ok64 (a b : List Sp) (ha : Vd a) : Ok 64 [spans a, spans b] (Is (spans (meetS a b))) := by
 refine ok_of lw64 (by simp) ?_
 unfold c64
 simp -implicitDefEqProofs only [rX,ofConst,↓reduceIte,Nat.reduceEqDiff,reduceCtorEq,cxN,args0]
 refine call_is (ok46 a b ha) ⟨⟨trivial, trivial, trivial⟩, ⟨rfl, rfl⟩, ⟨rfl, rfl⟩, trivial⟩ rfl trivial ?_
 simp -implicitDefEqProofs only [rX,↓reduceIte,Nat.reduceEqDiff]
 refine call_is (ok46 a (minusS a b) ha) ⟨⟨trivial, trivial, trivial⟩, ⟨rfl, rfl⟩, ⟨rfl, rfl⟩, trivial⟩ rfl trivial ?_
 simp -implicitDefEqProofs only [rX,↓reduceIte,resP,tupV,wfV]
 rfl
end Go.Fx.O
namespace Go.Fx.O
open Go Go.Fx Go.Proofs Go.Fx.R
set_option maxRecDepth 20000
def partyB (n : Int) : Bool := decide (n ≥ 0) && decide (n < 128)
def countsB (n : Int) : Bool := decide (n ≥ 1) && decide (n ≤ 1099511627776)
theorem ok41 (n : Int) : Ok 41 [.i n] (Is (.b (partyB n))) := by
 refine ok_of lw41 (by simp) ?_
 unfold c41 partyB
 simp -implicitDefEqProofs only [rX,↓rY,ofConst,↓reduceIte,Nat.reduceEqDiff,reduceCtorEq,resP,tupV,wfV,cxN,args0]
 cases h1 : decide (n ≥ 0) <;> simp -implicitDefEqProofs only [↓rY] <;> simp
theorem ok33 (n : Int) : Ok 33 [.i n] (Is (.b (partyB n))) := by
 refine ok_of lw33 (by simp) ?_
 unfold c33 partyB
 simp -implicitDefEqProofs only [rX,↓rY,ofConst,↓reduceIte,Nat.reduceEqDiff,reduceCtorEq,resP,tupV,wfV,cxN,args0]
 cases h1 : decide (n ≥ 0) <;> simp -implicitDefEqProofs only [↓rY] <;> simp
theorem ok52 (n : Int) : Ok 52 [.i n] (Is (.b (countsB n))) := by
 refine ok_of lw52 (by simp) ?_
 unfold c52 countsB
 simp -implicitDefEqProofs only [rX,↓rY,ofConst,↓reduceIte,Nat.reduceEqDiff,reduceCtorEq,resP,tupV,wfV,cxN,args0]
 cases h1 : decide (n ≥ 1) <;> simp -implicitDefEqProofs only [↓rY] <;> simp
theorem ok53 (n : Int) : Ok 53 [.i n] (Is (.b (countsB n))) := by
 refine ok_of lw53 (by simp) ?_
 unfold c53 countsB
 simp -implicitDefEqProofs only [rX,↓rY,ofConst,↓reduceIte,Nat.reduceEqDiff,reduceCtorEq,resP,tupV,wfV,cxN,args0]
 cases h1 : decide (n ≥ 1) <;> simp -implicitDefEqProofs only [↓rY] <;> simp
structure Us (l : List Sp) : Prop where
 v : Vd l
 n : l.length ≤ 1000
 b : ∀ s ∈ l, 1 ≤ s.1 ∧ s.2 ≤ 1073741825
def endsB (l : List Sp) : Bool := if h : 0 < l.length then decide (l[0].1 ≥ 1) && decide ((l[l.length - 1]'(by omega)).2 ≤ 1073741825) else true
def usB (l : List Sp) : Bool := vd l && decide (l.length ≤ 1000) && endsB l
theorem endsB_iff {l : List Sp} (h : Vd l) : endsB l = true ↔ ∀ s ∈ l, 1 ≤ s.1 ∧ s.2 ≤ 1073741825 := by
 unfold endsB
 split
 ·rename_i h0
  have hp := vE.1 h.1.2
  simp only [yM, decide_eq_true_eq]
  constructor
  ·rintro ⟨h1, h2⟩ s hs
   obtain ⟨k, hk, rfl⟩ := yY hs
   have h3 := h.1.1 _ (yH h0)
   have h4 := h.1.1 _ (yH (show l.length - 1 < l.length by omega))
   have h5 := h.1.1 _ (yH hk)
   constructor
   ·by_cases e : k = 0
    ·subst e; exact h1
    ·have := hp 0 k h0 hk (by omega); omega
   ·by_cases e : k = l.length - 1
    ·subst e; exact h2
    ·have := hp k (l.length - 1) hk (by omega) (by omega); omega
  ·exact fun h2 => ⟨(h2 _ (yH _)).1, (h2 _ (yH _)).2⟩
 ·rename_i h0
  have : l = [] := vH.1 (by omega)
  subst this
  simp
theorem usB_iff {l : List Sp} : usB l = true ↔ Us l := by
 unfold usB
 rw [yM, yM, decide_eq_true_eq, vd_iff]
 constructor
 ·rintro ⟨⟨h1, h2⟩, h3⟩
  exact ⟨h1, h2, (endsB_iff h1).1 h3⟩
 ·rintro ⟨h1, h2, h3⟩
  exact ⟨⟨h1, h2⟩, (endsB_iff h1).2 h3⟩
theorem ok59 (l : List Sp) : Ok 59 [spans l] (Is (.b (usB l))) := by
 refine ok_of lw59 (by simp) ?_
 unfold c59 usB
 simp -implicitDefEqProofs only [rX,ofConst,↓reduceIte,reduceCtorEq,cxN,args0]
 refine call_is (ok77 l) ⟨⟨trivial, trivial⟩, ⟨rfl, rfl⟩, trivial⟩ rfl trivial ?_
 cases h1 : vd l with
 | false => simp -implicitDefEqProofs only [rX,↓rY,ofConst,↓reduceIte,Nat.reduceEqDiff,resP,tupV,wfV]; simp
 | true =>
  cases h2 : decide (l.length ≤ 1000) with
  | false =>
   have h2' : decide ((l.length : Int) ≤ 1000) = false := decide_eq_false (by have := of_decide_eq_false h2; omega)
   simp -implicitDefEqProofs only [rX,↓rY,ofConst,↓reduceIte,Nat.reduceEqDiff,reduceCtorEq,resP,tupV,wfV,enS_0,enS_1,h2']; simp
  | true =>
   have h2' : decide ((l.length : Int) ≤ 1000) = true := decide_eq_true (by have := of_decide_eq_true h2; omega)
   by_cases h3 : 0 < l.length
   ·have h3' : ((l.length : Int) == 0) = false := by rw [beq_eq_false_iff_ne]; omega
    have hto : ((l.length : Int) - 1).toNat = l.length - 1 := by omega
    unfold endsB
    simp -implicitDefEqProofs only [rX,↓rY,ofConst,↓reduceIte,Nat.reduceEqDiff,reduceCtorEq,resP,tupV,wfV,enS_0,enS_1,h2',h3',dif_pos h3]
    refine fun hm _ => ⟨⟨by omega, by omega⟩, by simpa using h3, ?_⟩
    cases h4 : decide (l[0].1 ≥ 1) with
    | false =>
     have h4' : decide ((l[yQ 0]'(by simpa using h3)).1 ≥ 1) = false := h4
     simp -implicitDefEqProofs only [↓rY,h4']; simp
    | true =>
     have h4' : decide ((l[yQ 0]'(by simpa using h3)).1 ≥ 1) = true := h4
     simp -implicitDefEqProofs only [↓rY,h4',hto]
     simp
     simp only [lo, hi, maxLen] at *
     omega
   ·have h3' : ((l.length : Int) == 0) = true := by rw [show l.length = 0 by omega]; rfl
    unfold endsB
    simp -implicitDefEqProofs only [rX,↓rY,ofConst,↓reduceIte,Nat.reduceEqDiff,reduceCtorEq,resP,tupV,wfV,enS_0,enS_1,h2',h3',dif_neg h3]
    simp
theorem ok32 (l : List Sp) : Ok 32 [spans l] (Is (.b (usB l))) := by
 refine ok_of lw32 (by simp) ?_
 unfold c32 usB
 simp -implicitDefEqProofs only [rX,ofConst,↓reduceIte,reduceCtorEq,cxN,args0]
 refine call_is (ok63 l) ⟨⟨trivial, trivial⟩, ⟨rfl, rfl⟩, trivial⟩ rfl trivial ?_
 cases h1 : vd l with
 | false => simp -implicitDefEqProofs only [rX,↓rY,ofConst,↓reduceIte,Nat.reduceEqDiff,resP,tupV,wfV]; simp
 | true =>
  cases h2 : decide (l.length ≤ 1000) with
  | false =>
   have h2' : decide ((1000 : Int) < (l.length : Int)) = true := decide_eq_true (by have := of_decide_eq_false h2; omega)
   simp -implicitDefEqProofs only [rX,↓rY,ofConst,↓reduceIte,Nat.reduceEqDiff,reduceCtorEq,resP,tupV,wfV,enS_0,enS_1,h2']; simp
  | true =>
   have h2' : decide ((1000 : Int) < (l.length : Int)) = false := decide_eq_false (by have := of_decide_eq_true h2; omega)
   by_cases h3 : 0 < l.length
   ·have h3' : ((l.length : Int) == 0) = false := by rw [beq_eq_false_iff_ne]; omega
    have hto : ((l.length : Int) - 1).toNat = l.length - 1 := by omega
    unfold endsB
    simp -implicitDefEqProofs only [rX,↓rY,ofConst,↓reduceIte,Nat.reduceEqDiff,reduceCtorEq,resP,tupV,wfV,enS_0,enS_1,h2',h3',dif_pos h3]
    refine fun hm _ => ⟨⟨by omega, by omega⟩, by simpa using h3, ?_⟩
    cases h4 : decide (l[0].1 ≥ 1) with
    | false =>
     have h4' : decide ((l[yQ 0]'(by simpa using h3)).1 ≥ 1) = false := h4
     simp -implicitDefEqProofs only [↓rY,h4']; simp
    | true =>
     have h4' : decide ((l[yQ 0]'(by simpa using h3)).1 ≥ 1) = true := h4
     simp -implicitDefEqProofs only [↓rY,h4',hto]
     simp
     simp only [lo, hi, maxLen] at *
     omega
   ·have h3' : ((l.length : Int) == 0) = true := by rw [show l.length = 0 by omega]; rfl
    unfold endsB
    simp -implicitDefEqProofs only [rX,↓rY,ofConst,↓reduceIte,Nat.reduceEqDiff,reduceCtorEq,resP,tupV,wfV,enS_0,enS_1,h2',h3',dif_neg h3]
    simp
theorem ok34 (A B : List Sp) (hA : Vd A) : Ok 34 [spans A, spans B] (Is (.b (decide ((meetS A B).length = 0)))) := by
 refine ok_of lw34 (by simp) ?_
 unfold c34
 simp -implicitDefEqProofs only [rX,ofConst,↓reduceIte,Nat.reduceEqDiff,reduceCtorEq,cxN,args0]
 refine call_is (ok64 A B hA) ⟨⟨trivial, trivial, trivial⟩, ⟨rfl, rfl⟩, ⟨rfl, rfl⟩, trivial⟩ rfl trivial ?_
 simp -implicitDefEqProofs only [rX,↓rY,ofConst,↓reduceIte,resP,tupV,wfV]
 intro _
 rw [vF]
 simp
theorem both_step {a b : List Sp} {k : Nat} (h : k < b.length) : bothS a (b.take (k + 1)) = addS (bothS a (b.take k)) b[k] := by
 unfold bothS
 rw [yJ, yK h, vD]; rfl
theorem bd_take {b : List Sp} (h : Bd b) (k : Nat) : Bd (b.take k) := fun s hs => h s (vI hs)
theorem mid_of {l : List Sp} (h : Bd l) : Mid l := fun s hs => by have := h s hs; omega
theorem bd_app {l m : List Sp} (h1 : Bd l) (h2 : Bd m) : Bd (l ++ m) := fun s hs => (vR.1 hs).elim (h1 s) (h2 s)
theorem ok39 (a b : List Sp) (ha : Vd a) (hb : Bd b) : Ok 39 [spans a, spans b] (Is (spans (bothS a b))) := by
 refine ok_of lw39 (by simp) ?_
 unfold c39
 simp -implicitDefEqProofs only [rX,↓rY,ofConst,↓reduceIte,Nat.reduceEqDiff,reduceCtorEq,cxN,args0]
 intro hm
 refine loopP_intro (fun k : Nat => ⟨[(9, .i k), (8, .i b.length), (7, .ro 2 (b.map enS)), (0, .ro 2 ((bothS a (b.take k)).map enS))], [], 0⟩) (fun k => k ≤ b.length) (fun k => b.length - k) 0 (by omega) ?_ ?_
 ·simp -implicitDefEqProofs only [rX,↓reduceIte,Nat.reduceEqDiff,reduceCtorEq,leE,leH,keepP,wfE,wfB,wfV,yE]
  rfl
 rintro k hk
 have hv : Vd (bothS a (b.take k)) := ha.both (bd_take hb k)
 have hvl := hv.len
 unfold c39l0
 simp -implicitDefEqProofs only [rX,↓rY,ofConst,cells?,splice,↓reduceIte,Nat.reduceEqDiff,Nat.reduceAdd,reduceCtorEq,freshP,resP,tupV,wfV,enS_len,enS_take,enS_C]
 simp only [br, decide_eq_true_eq, decide_eq_false_iff_not]
 refine ⟨fun h => ?_, fun h => ?_⟩
 ·have hk' : k < b.length := by omega
  have hbk := hb _ (yH hk')
  refine ⟨⟨by omega, h⟩, hk', ?_⟩
  refine call_is (ok65 (bothS a (b.take k)) b[k] (by omega) hv.1 (mid_of (bd_app hv.2 fun s hs => by rw [vS] at hs; subst hs; exact hbk))) ⟨⟨trivial, ⟨trivial, trivial, trivial⟩, trivial⟩, ⟨rfl, rfl⟩, ⟨rfl, rfl, trivial⟩, trivial⟩ rfl trivial ?_
  simp -implicitDefEqProofs only [rX,↓rY,ofConst,↓reduceIte,Nat.reduceEqDiff,reduceCtorEq,leE,leH,keepP,wfE,wfB,wfV]
  refine ⟨by simp only [lo, hi, maxLen] at *; omega, k + 1, ⟨by omega, by omega⟩, ?_⟩
  rw [both_step hk']
  simp
 ·rw [yD (by omega)]
theorem ok47 (a b : List Sp) (ha : Vd a) (hb : Bd b) : Ok 47 [spans a, spans b] (Is (spans (bothS a b))) := by
 refine okN_gv ?_
 refine ok_of lw47 (by simp) ?_
 have hal := ha.len
 unfold c47
 simp -implicitDefEqProofs only [rX,↓rY,ofConst,↓reduceIte,Nat.reduceEqDiff,Nat.reduceAdd,reduceCtorEq,freshP,litsP,killE,killB,kill,St.kill,cxN,args0]
 refine ⟨by simp, by omega, ?_⟩
 have htk : yF a.length (a.map enS) = a.map enS := take_map rfl
 refine loopP_ghost (.give (fun k => k == 0) (by simp) (.refl _)) (fun k : Nat => ⟨[(6, .i k), (5, .ro 2 ((bothS a (b.take k)).map enS)), (1, .ro 2 (b.map enS))], [], 0⟩) (fun k => k ≤ b.length) (fun k => b.length - k) 0 (by omega) ?_ ?_
 ·simp -implicitDefEqProofs only [rX,↓reduceIte,Nat.reduceEqDiff,reduceCtorEq,leE,leH,keepP,wfE,wfB,wfV,St.give,gvE,gvV,gvH,gvB,Nat.reduceBEq,yE,htk]
  rfl
 rintro k hk
 have hv : Vd (bothS a (b.take k)) := ha.both (bd_take hb k)
 have hvl := hv.len
 unfold c47l0
 simp -implicitDefEqProofs only [rX,↓rY,↓reduceIte,Nat.reduceEqDiff,enS_len,enS_take]
 intro hm
 simp only [br, decide_eq_true_eq, decide_eq_false_iff_not]
 refine ⟨fun h => ?_, fun h => ?_⟩
 ·have hk' : k < b.length := by omega
  refine ⟨⟨by omega, h⟩, hk', ?_⟩
  refine call_is (ok68 (bothS a (b.take k)) b[k] (by omega)) ⟨⟨trivial, ⟨trivial, trivial, trivial⟩, trivial⟩, ⟨rfl, rfl⟩, ⟨rfl, rfl, trivial⟩, trivial⟩ rfl trivial ?_
  simp -implicitDefEqProofs only [rX,↓rY,ofConst,↓reduceIte,Nat.reduceEqDiff,leE,leH,keepP,wfE,wfB,wfV]
  refine ⟨by simp only [lo, hi, maxLen] at *; omega, k + 1, ⟨by omega, by omega⟩, ?_⟩
  rw [both_step hk']
  simp
 ·rw [yD (by omega)]
  exact ret_ro rfl
end Go.Fx.O
namespace Go.Fx.O
open Go Go.Fx Go.Proofs Go.Fx.R
set_option maxRecDepth 20000
def cmpI (a b : Int) : Int := if a < b then -1 else if b < a then 1 else 0
theorem ok92 (n : Int) : Ok 92 [.i n] (Is (.b false)) := by
 refine ok_of lw92 (by simp) ?_
 unfold c92
 simp -implicitDefEqProofs only [rX,↓rY,ofConst,↓reduceIte,Nat.reduceEqDiff,reduceCtorEq,resP,tupV,wfV,cxN,args0]
 simp
theorem ok80 (a b : Int) : Ok 80 [.i a, .i b] (Is (.i (cmpI a b))) := by
 refine ok_of lw80 (by simp) ?_
 unfold c80 cmpI
 simp -implicitDefEqProofs only [rX,ofConst,↓reduceIte,reduceCtorEq,cxN,args0]
 refine call_is (ok92 a) ⟨⟨trivial, trivial⟩, rfl, trivial⟩ rfl trivial ?_
 simp -implicitDefEqProofs only [rX,↓reduceIte,Nat.reduceEqDiff,reduceCtorEq]
 refine call_is (ok92 b) ⟨⟨trivial, trivial⟩, rfl, trivial⟩ rfl trivial ?_
 simp -implicitDefEqProofs only [rX,↓rY,ofConst,↓reduceIte,Nat.reduceEqDiff,reduceCtorEq,resP,tupV,wfV]
 simp only [br, decide_eq_true_eq, decide_eq_false_iff_not]
 refine ⟨fun h1 => ?_, fun h1 => ⟨fun h2 => ?_, fun h2 => ?_⟩⟩
 ·rw [if_pos h1]
 ·rw [if_neg h1, if_pos h2]
 ·rw [if_neg h1, if_neg h2]
theorem ok79 (m : Sp) (b : Int) : Ok 79 [.agg (enS m), .i b] (Is (.i (cmpI m.1 b))) := by
 refine ok_of lw79 (by simp) ?_
 unfold c79
 simp -implicitDefEqProofs only [rX,↓rY,ofConst,cells?,↓reduceIte,Nat.reduceEqDiff,reduceCtorEq,freshP,cxN,enS_0,args0]
 refine call_is (ok80 m.1 b) ⟨⟨trivial, trivial, trivial⟩, rfl, rfl, trivial⟩ rfl trivial ?_
 simp -implicitDefEqProofs only [rX,↓reduceIte,resP,tupV,wfV]
def Mks (l : List Sp) : Prop := l.Pairwise fun s t => s.1 < t.1
def posM (l : List Sp) (who : Int) : Nat := (l.filter fun m => decide (m.1 < who)).length
def isM (l : List Sp) (who : Int) : Bool := l.any fun m => m.1 == who
theorem posM_eq : ∀ {l : List Sp} {who : Int} {k : Nat}, Mks l → k ≤ l.length → (∀ j (h : j < l.length), j < k → l[j].1 < who) → (∀ j (h : j < l.length), k ≤ j → who ≤ l[j].1) → posM l who = k := by
 intro l who k _ hk h1 h2
 unfold posM
 conv => lhs; rw [← List.take_append_drop k l]
 rw [vJ, yV.2, yS.2, vT, yT]
 ·omega
 ·intro m hm
  obtain ⟨j, hj, rfl⟩ := yY hm
  rw [List.length_drop] at hj
  have := h2 (k + j) (by omega) (by omega)
  simp only [List.getElem_drop, decide_eq_true_eq]
  omega
 ·intro m hm
  obtain ⟨j, hj, rfl⟩ := yY hm
  rw [yT] at hj
  have := h1 j (by omega) (by omega)
  simpa [List.getElem_take] using this
theorem isM_eq {l : List Sp} {who : Int} {k : Nat} (hm : Mks l) (h1 : ∀ j (h : j < l.length), j < k → l[j].1 < who) (h2 : ∀ j (h : j < l.length), k ≤ j → who ≤ l[j].1) : isM l who = if h : k < l.length then l[k].1 == who else false := by
 have hp := vE.1 hm
 rw [vF]
 unfold isM
 rw [List.any_eq_true]
 constructor
 ·rintro ⟨m, hmem, he⟩
  obtain ⟨j, hj, rfl⟩ := yY hmem
  have he' : l[j].1 = who := by simpa using he
  rcases Nat.lt_trichotomy j k with c | c | c
  ·have := h1 j hj c; omega
  ·subst c; rw [dif_pos hj]; simpa using he'
  ·have := h2 k (by omega) (vG _)
   have := hp k j (by omega) hj c
   omega
 ·intro h
  split at h
  ·rename_i hk
   exact ⟨_, yH hk, h⟩
  ·cases h
theorem sh_r {k : IntKind} {a c : Int} {K : V → Prop} : shiftInt .shr k a c K = (0 ≤ c ∧ K (.v (.int k (a.fdiv (2 ^ (min c.toNat k.bits)))))) := rfl
theorem ok78 (l : List Sp) (who : Int) (hm : Mks l) (hl : l.length ≤ 1000000) : Ok 78 [.bro 2 (l.map enS), .i who, .clo 79 []] (Is (.tup [.i (posM l who), .b (isM l who)])) := by
 refine ok_of lw78 (by simp) ?_
 unfold c78
 simp -implicitDefEqProofs only [rX,↓rY,ofConst,↓reduceIte,Nat.reduceEqDiff,Nat.reduceAdd,reduceCtorEq,cxN,args0]
 intro hmx
 have hp := vE.1 hm
 refine loopP_intro (fun g : Nat × Nat => ⟨[(10, .i g.2), (9, .i g.1), (8, .i l.length), (2, .clo 79 []), (1, .i who), (0, .bro 2 (l.map enS))], [], 0⟩) (fun g => (g.1 ≤ g.2 ∧ g.2 ≤ l.length) ∧ (∀ j (h : j < l.length), j < g.1 → l[j].1 < who) ∧ (∀ j (h : j < l.length), g.2 ≤ j → who ≤ l[j].1)) (fun g => g.2 - g.1) (0, l.length) ⟨⟨by simp, by simp⟩, fun j h h2 => absurd h2 (vK _), fun j h h2 => absurd h (by simp only at h2; omega)⟩ ?_ ?_
 ·simp -implicitDefEqProofs only [rX,↓reduceIte,Nat.reduceEqDiff,reduceCtorEq,leE,leH,keepP,wfE,wfB,wfV,wfL,yE]
 rintro ⟨i, j⟩ ⟨⟨hij, hj⟩, h1, h2⟩
 simp only at hij hj h1 h2
 unfold c78l0
 rcases yG i j with c | c
 ·have hd : decide ((i : Int) < (j : Int)) = true := decide_eq_true (by omega)
  have hw : IntKind.wrap .u64 ((i : Int) + (j : Int)) = ((i + j : Nat) : Int) := by rw [wrap_in .u64 _ (by simp only [lo, Fx.hi]; omega)]; omega
  have hdv : ((i + j : Nat) : Int).fdiv (2 ^ (min (yQ 1) IntKind.u64.bits)) = (((i + j) / 2 : Nat) : Int) := by
   rw [show min (yQ 1) IntKind.u64.bits = 1 from rfl]
   rw [Int.fdiv_eq_ediv_of_nonneg _ (by decide)]
   omega
  have hw2 : IntKind.wrap .i64 (((i + j) / 2 : Nat) : Int) = (((i + j) / 2 : Nat) : Int) := wrap_in .i64 _ (by simp only [lo, Fx.hi]; omega)
  have hk : (i + j) / 2 < l.length := by omega
  simp -implicitDefEqProofs only [rX,↓rY,ofConst,↓reduceIte,Nat.reduceEqDiff,reduceCtorEq,enS_len,enS_take,hd,hw,hdv,hw2,↓sh_r]
  refine ⟨by simp only [lo, hi]; omega, by omega, ⟨by omega, by omega⟩, hk, ?_⟩
  refine call_is (ok79 l[(i + j) / 2] who) ⟨⟨⟨trivial, trivial, trivial⟩, trivial, trivial⟩, ⟨rfl, rfl, trivial⟩, rfl, trivial⟩ rfl trivial ?_
  cases h3 : decide (l[(i + j) / 2].1 < who) with
  | true =>
   have h3' : l[(i + j) / 2].1 < who := by simpa using h3
   have h4 : decide (cmpI l[(i + j) / 2].1 who < 0) = true := by unfold cmpI; rw [if_pos h3']; rfl
   simp -implicitDefEqProofs only [rX,↓rY,ofConst,↓reduceIte,Nat.reduceEqDiff,reduceCtorEq,leE,leH,keepP,wfE,wfB,wfV,wfL,h4]
   refine ⟨by simp only [lo, hi]; omega, ((i + j) / 2 + 1, j), ⟨⟨⟨by simp only; omega, hj⟩, fun k hk2 hlt => ?_, h2⟩, by simp only; omega⟩, by simp⟩
   simp only at hlt
   by_cases e : k = (i + j) / 2
   ·subst e; exact h3'
   ·have := hp k ((i + j) / 2) hk2 hk (by omega); omega
  | false =>
   have h3' : ¬ l[(i + j) / 2].1 < who := by simpa using h3
   have h4 : decide (cmpI l[(i + j) / 2].1 who < 0) = false := by unfold cmpI; rw [if_neg h3']; split <;> rfl
   simp -implicitDefEqProofs only [rX,↓rY,ofConst,↓reduceIte,Nat.reduceEqDiff,reduceCtorEq,leE,leH,keepP,wfE,wfB,wfV,wfL,h4]
   refine ⟨(i, (i + j) / 2), ⟨⟨⟨by simp only; omega, by simp only; omega⟩, h1, fun k hk2 hlt => ?_⟩, by simp only; omega⟩, by simp⟩
   simp only at hlt
   by_cases e : k = (i + j) / 2
   ·subst e; omega
   ·have := hp ((i + j) / 2) k hk hk2 (by omega); omega
 ·have hd : decide ((i : Int) < (j : Int)) = false := decide_eq_false (by omega)
  have he : i = j := by omega
  subst he
  have hpos := posM_eq hm hj h1 h2
  have his := isM_eq hm h1 h2
  rcases yG i l.length with c2 | c2
  ·have hd2 : decide ((i : Int) < (l.length : Int)) = true := decide_eq_true (by omega)
   simp -implicitDefEqProofs only [rX,↓rY,↓reduceIte,Nat.reduceEqDiff,reduceCtorEq,enS_len,enS_take,hd,hd2]
   refine ⟨⟨by omega, by omega⟩, c2, ?_⟩
   refine call_is (ok79 l[i] who) ⟨⟨⟨trivial, trivial, trivial⟩, trivial, trivial⟩, ⟨rfl, rfl, trivial⟩, rfl, trivial⟩ rfl trivial ?_
   have h4 : (cmpI l[i].1 who == 0) = isM l who := by
    rw [his, dif_pos c2]
    have := h2 i c2 (vG _)
    unfold cmpI
    rw [if_neg (by omega)]
    rw [vF]
    split
    ·simp; omega
    ·simp; omega
   simp -implicitDefEqProofs only [rX,↓rY,ofConst,↓reduceIte,Nat.reduceEqDiff,resP,tupV,wfV,wfL,h4,hpos]
  ·have hd2 : decide ((i : Int) < (l.length : Int)) = false := decide_eq_false (by omega)
   rw [dif_neg (by omega)] at his
   simp -implicitDefEqProofs only [rX,↓rY,ofConst,↓reduceIte,Nat.reduceEqDiff,resP,tupV,wfV,wfL,hd,hd2,hpos,his]
theorem ok62 (l : List Sp) (who : Int) (hm : Mks l) (hl : l.length ≤ 1000000) : Ok 62 [.bro 2 (l.map enS), .i who] (Is (.tup [.i (posM l who), .b (isM l who)])) := by
 refine ok_of lw62 (by simp) ?_
 unfold c62
 simp -implicitDefEqProofs only [rX,ofConst,↓reduceIte,Nat.reduceEqDiff,reduceCtorEq,cxN,args0]
 refine call_is (ok78 l who hm hl) ⟨⟨trivial, trivial, trivial, trivial⟩, ⟨rfl, rfl⟩, rfl, ⟨rfl, trivial⟩, trivial⟩ rfl trivial ?_
 simp -implicitDefEqProofs only [rX,↓rY,↓reduceIte,Nat.reduceEqDiff,resP,tupV,wfV,wfL]
end Go.Fx.O
namespace Go.Fx.O
open Go Go.Fx Go.Proofs Go.Fx.R
set_option maxRecDepth 20000
def markOf (l : List Sp) (who : Int) : Int := match l.find? fun m => m.1 == who with
 | some m => m.2
 | none => 0
theorem mks_cons {m : Sp} {l : List Sp} : Mks (m :: l) ↔ (∀ t ∈ l, m.1 < t.1) ∧ Mks l := List.pairwise_cons
theorem markOf_no {l : List Sp} {who : Int} (h : isM l who = false) : markOf l who = 0 := by
 unfold markOf
 have : l.find? (fun m => m.1 == who) = none := by
  rw [List.find?_eq_none]
  intro m hm
  unfold isM at h
  rw [vU] at h
  exact h m hm
 rw [this]
theorem posM_at : ∀ {l : List Sp} {who : Int}, Mks l → isM l who = true → ∃ h : posM l who < l.length, l[posM l who].1 = who ∧ markOf l who = l[posM l who].2
 | [], who, _, h => by simp [isM] at h
 | m :: l, who, hm, h => by
  obtain ⟨h1, h2⟩ := mks_cons.1 hm
  rcases vL m.1 who with c | c | c
  ·have hi : isM l who = true := by
    unfold isM at h ⊢
    rw [List.any_cons] at h
    have : (m.1 == who) = false := by rw [beq_eq_false_iff_ne]; omega
    rw [this, Bool.false_or] at h
    exact h
   obtain ⟨q1, q2, q3⟩ := posM_at h2 hi
   have hp : posM (m :: l) who = posM l who + 1 := by
    unfold posM
    rw [yW (by simpa using c)]
    rfl
   have hf : markOf (m :: l) who = markOf l who := by
    unfold markOf
    rw [yZ (by simp; omega)]
   refine ⟨by rw [hp, vM]; omega, ?_, ?_⟩
   ·simp only [hp, uA]; exact q2
   ·simp only [hp, uA]; rw [hf]; exact q3
  ·have hp : posM (m :: l) who = 0 := by
    unfold posM
    rw [vH, yS]
    intro t ht
    rcases yN.1 ht with rfl | ht
    ·simp; omega
    ·have := h1 t ht; simp; omega
   have hf : markOf (m :: l) who = m.2 := by
    unfold markOf
    rw [vN (by simp [c])]
   refine ⟨by rw [hp]; simp, ?_, ?_⟩
   ·simp only [hp, uB]; exact c
   ·simp only [hp, uB]; exact hf
  ·unfold isM at h
   rw [List.any_eq_true] at h
   obtain ⟨t, ht, he⟩ := h
   have he' : t.1 = who := by simpa using he
   rcases yN.1 ht with rfl | ht
   ·omega
   ·have := h1 t ht; omega
theorem ok40 (l : List Sp) (who : Int) (hm : Mks l) (hl : l.length ≤ 1000000) : Ok 40 [spans l, .i who] (Is (.i (markOf l who))) := by
 refine ok_of lw40 (by simp) ?_
 unfold c40
 simp -implicitDefEqProofs only [rX,ofConst,↓reduceIte,Nat.reduceEqDiff,reduceCtorEq,cxN,args0]
 refine call_is (ok62 l who hm hl) ⟨⟨trivial, trivial, trivial⟩, ⟨rfl, rfl⟩, rfl, trivial⟩ rfl trivial ?_
 cases h : isM l who with
 | true =>
  obtain ⟨h1, h2, h3⟩ := posM_at hm h
  simp -implicitDefEqProofs only [rX,↓rY,↓reduceIte,Nat.reduceEqDiff,reduceCtorEq,resP,tupV,wfV,enS_1]
  exact ⟨⟨by omega, by omega⟩, h1, h3.symm⟩
 | false =>
  simp -implicitDefEqProofs only [rX,↓rY,ofConst,↓reduceIte,Nat.reduceEqDiff,resP,tupV,wfV]
  rw [markOf_no h]
theorem markOf_first {l : List Sp} {who : Int} {k : Nat} (hk : k < l.length) (h : ∀ j (h : j < l.length), j < k → l[j].1 ≠ who) (he : l[k].1 = who) : markOf l who = l[k].2 := by
 unfold markOf
 have : l.find? (fun m => m.1 == who) = some l[k] := by
  rw [List.find?_eq_some_iff_getElem]
  exact ⟨by simpa using he, k, hk, rfl, fun j hj => by have := h j (by omega) hj; simpa using this⟩
 rw [this]
theorem ok36 (l : List Sp) (who : Int) : Ok 36 [spans l, .i who] (Is (.i (markOf l who))) := by
 refine ok_of lw36 (by simp) ?_
 unfold c36
 simp -implicitDefEqProofs only [rX,ofConst,cxN,args0]
 refine loopP_intro (fun k : Nat => ⟨[(5, .i k), (1, .i who), (0, spans l)], [], 0⟩) (fun k => k ≤ l.length ∧ ∀ j (h : j < l.length), j < k → l[j].1 ≠ who) (fun k => l.length - k) 0 ⟨by omega, fun j h h2 => absurd h2 (vK _)⟩ ?_ ?_
 ·simp -implicitDefEqProofs only [rX,↓reduceIte,Nat.reduceEqDiff,reduceCtorEq,leE,leH,keepP,wfE,wfB,wfV,yE]
 rintro k ⟨hk, hv⟩
 unfold c36l0
 simp -implicitDefEqProofs only [rX,↓rY,ofConst,↓reduceIte,Nat.reduceEqDiff,reduceCtorEq,resP,tupV,leE,leH,keepP,wfE,wfB,wfV,enS_0,enS_1]
 intro hm
 simp only [br, decide_eq_true_eq, decide_eq_false_iff_not]
 refine ⟨fun h => ?_, fun h => ?_⟩
 ·have hk' : k < l.length := by omega
  refine ⟨⟨by omega, h⟩, hk', fun h2 => ⟨⟨by omega, h⟩, hk', (markOf_first hk' hv (by simpa using h2)).symm⟩, fun h2 => ⟨by simp only [lo, hi, maxLen] at *; omega, k + 1, ⟨⟨by omega, fun j hj hlt => ?_⟩, by omega⟩, by simp⟩⟩
  by_cases e : j = k
  ·subst e; simpa using h2
  ·exact hv j hj (by omega)
 ·refine (markOf_no ?_).symm
  unfold isM
  rw [vU]
  intro m hm
  obtain ⟨j, hj, rfl⟩ := yY hm
  have := hv j hj (by omega)
  simpa using this
def badM (l : List Sp) (me : Int) (k : Nat) (h : k < l.length) : Bool := ((!partyB l[k].1 || l[k].1 == me) || !countsB l[k].2) || (decide (0 < k) && decide (l[k].1 ≤ (l[k - 1]'(by omega)).1))
def MkOk (l : List Sp) (me : Int) : Prop := ∀ k (h : k < l.length), badM l me k h = false
instance {l : List Sp} {me : Int} : Decidable (MkOk l me) := inferInstanceAs (Decidable (∀ k (h : k < l.length), badM l me k h = false))
def mkB (l : List Sp) (me : Int) : Bool := decide (MkOk l me)
theorem MkOk.at {l : List Sp} {me : Int} (h : MkOk l me) {k : Nat} (hk : k < l.length) : ((0 ≤ l[k].1 ∧ l[k].1 < 128) ∧ l[k].1 ≠ me ∧ 1 ≤ l[k].2 ∧ l[k].2 ≤ 1099511627776) ∧ (0 < k → (l[k - 1]'(by omega)).1 < l[k].1) := by
 have := h k hk
 unfold badM partyB countsB at this
 simp at this
 omega
theorem MkOk.mks {l : List Sp} {me : Int} (h : MkOk l me) : Mks l := by
 unfold Mks
 rw [vE]
 intro i j hi hj hij
 have key : ∀ d, ∀ (hd : i + 1 + d < l.length), l[i].1 < l[i + 1 + d].1 := by
  intro d
  induction d with
  | zero =>
   intro hd
   have := (h.at (show i + 1 < l.length by omega)).2 (by omega)
   simpa using this
  | succ d ih =>
   intro hd
   have h1 := ih (by omega)
   have h2 := (h.at (show i + 1 + (d + 1) < l.length by omega)).2 (by omega)
   simp only [show i + 1 + (d + 1) - 1 = i + 1 + d by omega] at h2
   omega
 have := key (j - i - 1) (by omega)
 simpa [show i + 1 + (j - i - 1) = j by omega] using this
theorem ok35 (l : List Sp) (me : Int) : Ok 35 [spans l, .i me] (Is (.b (mkB l me))) := by
 refine ok_of lw35 (by simp) ?_
 unfold c35
 simp -implicitDefEqProofs only [rX,ofConst,cxN,args0]
 refine loopP_intro (fun k : Nat => ⟨[(5, .i k), (1, .i me), (0, spans l)], [], 0⟩) (fun k => k ≤ l.length ∧ ∀ j (h : j < l.length), j < k → badM l me j h = false) (fun k => l.length - k) 0 ⟨by omega, fun j h h2 => absurd h2 (vK _)⟩ ?_ ?_
 ·simp -implicitDefEqProofs only [rX,↓reduceIte,Nat.reduceEqDiff,reduceCtorEq,leE,leH,keepP,wfE,wfB,wfV,yE]
 rintro k ⟨hk, hv⟩
 have hbad : ∀ hk' : k < l.length, badM l me k hk' = true → false = mkB l me := fun hk' hb => by
  unfold mkB
  rw [eq_comm, decide_eq_false_iff_not]
  intro h
  rw [h k hk'] at hb; cases hb
 have hgo : l.length ≤ maxLen → ∀ hk' : k < l.length, badM l me k hk' = false → ((lo IntKind.i64 ≤ (k : Int) + 1 ∧ (k : Int) + 1 ≤ hi IntKind.i64) ∧ ∃ g', ((g' ≤ l.length ∧ ∀ j (h : j < l.length), j < g' → badM l me j h = false) ∧ l.length - g' < l.length - k) ∧ (k : Int) + 1 = (g' : Int)) := fun hm hk' hb =>
  ⟨by simp only [lo, hi, maxLen] at *; omega, k + 1, ⟨⟨by omega, fun j hj hlt => by
   by_cases e : j = k
   ·subst e; exact hb
   ·exact hv j hj (by omega)⟩, by omega⟩, by simp⟩
 unfold c35l0
 rcases yG k l.length with hk' | hk'
 ·have hd : decide ((k : Int) < (l.length : Int)) = true := decide_eq_true (by omega)
  have hkk : (0 : Int) ≤ k ∧ (k : Int) < l.length := ⟨by omega, by omega⟩
  simp -implicitDefEqProofs only [rX,↓rY,rdK,↓reduceIte,Nat.reduceEqDiff,reduceCtorEq,enS_0,hd]
  refine fun hmx => ⟨hkk, hk', ?_⟩
  have hgo := hgo hmx
  refine call_is (ok33 l[k].1) ⟨⟨trivial, trivial⟩, rfl, trivial⟩ rfl trivial ?_
  cases h1 : partyB l[k].1 with
  | false => simp -implicitDefEqProofs only [rX,↓rY,rdK,ofConst,↓reduceIte,Nat.reduceEqDiff,resP,tupV,wfV]; exact hbad hk' (by simp [badM, h1])
  | true =>
   cases h2 : l[k].1 == me with
   | true => simp -implicitDefEqProofs only [rX,↓rY,rdK,ofConst,↓reduceIte,Nat.reduceEqDiff,reduceCtorEq,resP,tupV,wfV,enS_0,h2]; exact ⟨hkk, hk', hbad hk' (by simp [badM, h2])⟩
   | false =>
    simp -implicitDefEqProofs only [rX,↓rY,rdK,↓reduceIte,Nat.reduceEqDiff,reduceCtorEq,enS_0,enS_1,h2]
    refine ⟨hkk, hk', hkk, hk', ?_⟩
    refine call_is (ok53 l[k].2) ⟨⟨trivial, trivial⟩, rfl, trivial⟩ rfl trivial ?_
    cases h3 : countsB l[k].2 with
    | false => simp -implicitDefEqProofs only [rX,↓rY,rdK,ofConst,↓reduceIte,Nat.reduceEqDiff,resP,tupV,wfV]; exact hbad hk' (by simp [badM, h3])
    | true =>
     cases h4 : decide (0 < k) with
     | false =>
      have h4' : decide ((0 : Int) < (k : Int)) = false := by simpa using h4
      simp -implicitDefEqProofs only [rX,↓rY,rdK,ofConst,↓reduceIte,Nat.reduceEqDiff,reduceCtorEq,resP,tupV,leE,leH,keepP,wfE,wfB,wfV,enS_0,h4']
      exact hgo hk' (by simp [badM, h1, h2, h3, h4])
     | true =>
      have h4' : decide ((0 : Int) < (k : Int)) = true := by simpa using h4
      have h5 : 0 < k := by simpa using h4
      have hto : ((k : Int) - 1).toNat = k - 1 := by omega
      simp -implicitDefEqProofs only [rX,↓rY,rdK,ofConst,↓reduceIte,Nat.reduceEqDiff,reduceCtorEq,resP,tupV,leE,leH,keepP,wfE,wfB,wfV,enS_0,h4',hto]
      refine ⟨hkk, hk', by simp only [lo, hi, maxLen] at *; omega, by omega, by omega, ?_⟩
      cases h6 : decide (l[k].1 ≤ (l[k - 1]'(by omega)).1) with
      | true => simp -implicitDefEqProofs only [↓rY]; exact hbad hk' (by simp [badM, h4, h6])
      | false => simp -implicitDefEqProofs only [↓rY]; exact hgo hk' (by simp [badM, h1, h2, h3, h6])
 ·have hd : decide ((k : Int) < (l.length : Int)) = false := decide_eq_false (by omega)
  simp -implicitDefEqProofs only [rX,↓rY,ofConst,↓reduceIte,Nat.reduceEqDiff,reduceCtorEq,resP,tupV,wfV,hd]
  intro _
  unfold mkB
  rw [eq_comm, decide_eq_true_eq]
  exact fun j hj => hv j hj (by omega)
end Go.Fx.O
namespace Go.Fx.R
def takeS : List Sp → Int → List Sp
 | [], _ => []
 | s :: l, n => if n ≤ 0 then [] else (s.1, s.1 + min (s.2 - s.1) n) :: takeS l (n - min (s.2 - s.1) n)
theorem takeS_zero {l : List Sp} {n : Int} (h : n ≤ 0) : takeS l n = [] := by
 cases l with
 | nil => rfl
 | cons s l => exact if_pos h
def pfS : List Sp → Int → List Sp
 | [], _ => []
 | s :: l, n => (s.1, s.1 + min n (s.2 - s.1)) :: pfS l (n - min n (s.2 - s.1))
def prS : List Sp → Int → List Sp
 | [], _ => []
 | s :: l, n => (s.1 + min n (s.2 - s.1), s.2) :: prS l (n - min n (s.2 - s.1))
theorem pfS_in {x : Int} : ∀ {l : List Sp} {n : Int}, Sep l → 0 ≤ n → (inS (pfS l n) x ↔ inS (takeS l n) x)
 | [], n, _, _ => by simp [pfS, takeS]
 | s :: l, n, h, hn => by
  obtain ⟨h1, h2, h3⟩ := sep_cons.1 h
  have ih := pfS_in (x := x) (l := l) (n := n - min n (s.2 - s.1)) h3 (by omega)
  unfold pfS takeS
  by_cases c : n ≤ 0
  ·have h0 : n = 0 := by omega
   subst h0
   rw [if_pos (by omega), inS_cons, ih, takeS_zero (by omega), inS_nil]
   constructor
   ·rintro (h | h)
    ·simp only at h; omega
    ·exact h
   ·exact fun h => h.elim
  ·rw [if_neg c, inS_cons, inS_cons, ih, Int.min_comm]
theorem takeS_sub : ∀ {l : List Sp} {n : Int} {t : Sp}, t ∈ takeS l n → ∃ s ∈ l, s.1 = t.1 ∧ t.2 ≤ s.2
 | [], _, t, h => by simp [takeS] at h
 | s :: l, n, t, h => by
  unfold takeS at h
  split at h
  ·simp at h
  ·rcases yN.1 h with rfl | h
   ·exact ⟨s, by simp, rfl, by simp only; omega⟩
   ·obtain ⟨u, hu, h1⟩ := takeS_sub h
    exact ⟨u, by simp [hu], h1⟩
theorem sep_takeS : ∀ {l : List Sp} {n : Int}, Sep l → Sep (takeS l n)
 | [], _, _ => sep_nil
 | s :: l, n, h => by
  obtain ⟨h1, h2, h3⟩ := sep_cons.1 h
  unfold takeS
  split
  ·exact sep_nil
  ·refine sep_cons.2 ⟨by simp only; omega, fun t ht => ?_, sep_takeS h3⟩
   obtain ⟨u, hu, h4, _⟩ := takeS_sub ht
   have := h2 u hu
   simp only
   omega
theorem takeS_in {x : Int} : ∀ {l : List Sp} {n : Int}, inS (takeS l n) x → inS l x
 | l, n, ⟨t, ht, h1, h2⟩ => by
  obtain ⟨s, hs, h3, h4⟩ := takeS_sub ht
  exact ⟨s, hs, by omega, by omega⟩
theorem prS_in {x : Int} : ∀ {l : List Sp} {n : Int}, Sep l → 0 ≤ n → (inS (prS l n) x ↔ inS l x ∧ ¬ inS (takeS l n) x)
 | [], n, _, _ => by simp [prS, inS_nil]
 | s :: l, n, h, hn => by
  obtain ⟨h1, h2, h3⟩ := sep_cons.1 h
  have ih := prS_in (x := x) (l := l) (n := n - min n (s.2 - s.1)) h3 (by omega)
  have hgt : inS l x → s.2 < x := fun hx => inS_gt h2 hx
  have hgt2 : ∀ m, inS (takeS l m) x → s.2 < x := fun m hx => hgt (takeS_in hx)
  unfold prS takeS
  by_cases c : n ≤ 0
  ·have h0 : n = 0 := by omega
   subst h0
   rw [if_pos (by omega), inS_cons, ih, takeS_zero (by omega), inS_nil, inS_cons]
   have e : s.1 + min 0 (s.2 - s.1) = s.1 := by omega
   simp only [e, not_false_eq_true, and_true]
  ·rw [if_neg c, inS_cons, ih, inS_cons, inS_cons, Int.min_comm (s.2 - s.1) n]
   simp only
   constructor
   ·rintro (h | ⟨h4, h5⟩)
    ·refine ⟨.inl ⟨by omega, h.2⟩, ?_⟩
     rintro (h6 | h6)
     ·omega
     ·have := hgt2 _ h6; omega
    ·refine ⟨.inr h4, ?_⟩
     rintro (h6 | h6)
     ·have := hgt h4; omega
     ·exact h5 h6
   ·rintro ⟨h4 | h4, h5⟩
    ·left
     rw [not_or] at h5
     omega
    ·right
     rw [not_or] at h5
     exact ⟨h4, h5.2⟩
theorem of_pfS {l : List Sp} {n : Int} (h : Sep l) (hn : 0 ≤ n) : ofS (pfS l n) = takeS l n := Sep.ext sep_ofS (sep_takeS h) fun x => by rw [in_ofS, pfS_in h hn]
theorem of_prS {l : List Sp} {n : Int} (h : Sep l) (hn : 0 ≤ n) : ofS (prS l n) = minusS l (takeS l n) := Sep.ext sep_ofS (sep_minusS h) fun x => by rw [in_ofS, prS_in h hn, in_minusS]
end Go.Fx.R
namespace Go.Fx.O
open Go Go.Fx Go.Proofs Go.Fx.R
set_option maxRecDepth 20000
def lstN : List Sp → Int → Int
 | [], n => n
 | s :: l, n => lstN l (n - min n (s.2 - s.1))
theorem lst_app : ∀ {l m : List Sp} {n : Int}, lstN (l ++ m) n = lstN m (lstN l n) ∧ pfS (l ++ m) n = pfS l n ++ pfS m (lstN l n) ∧ prS (l ++ m) n = prS l n ++ prS m (lstN l n)
 | [], m, n => ⟨rfl, rfl, rfl⟩
 | s :: l, m, n => by
  obtain ⟨h1, h2, h3⟩ := lst_app (l := l) (m := m) (n := n - min n (s.2 - s.1))
  exact ⟨h1, by simp only [List.cons_append, pfS, lstN, h2], by simp only [List.cons_append, prS, lstN, h3]⟩
theorem lstN_b : ∀ {l : List Sp} {n : Int}, Sep l → 0 ≤ n → 0 ≤ lstN l n ∧ lstN l n ≤ n
 | [], n, _, h => ⟨h, Int.le_refl _⟩
 | s :: l, n, hs, h => by
  obtain ⟨h1, h2, h3⟩ := sep_cons.1 hs
  have := lstN_b (l := l) (n := n - min n (s.2 - s.1)) h3 (by omega)
  simp only [lstN]
  omega
theorem lst_step {l : List Sp} {n : Int} {k : Nat} (h : k < l.length) : lstN (l.take (k + 1)) n = lstN (l.take k) n - min (lstN (l.take k) n) (l[k].2 - l[k].1) ∧
  pfS (l.take (k + 1)) n = pfS (l.take k) n ++ [(l[k].1, l[k].1 + min (lstN (l.take k) n) (l[k].2 - l[k].1))] ∧ prS (l.take (k + 1)) n = prS (l.take k) n ++ [(l[k].1 + min (lstN (l.take k) n) (l[k].2 - l[k].1), l[k].2)] := by
 rw [yJ, yK h]
 exact lst_app (l := l.take k) (m := [l[k]]) (n := n)
theorem ofS_snoc {l : List Sp} {s : Sp} : ofS (l ++ [s]) = addS (ofS l) s := ofS_app
theorem pf_bd : ∀ {l : List Sp} {n : Int}, Bd l → Sep l → 0 ≤ n → Bd (pfS l n) ∧ Bd (prS l n)
 | [], n, _, _, _ => ⟨by simp [pfS, Bd], by simp [prS, Bd]⟩
 | s :: l, n, h, hs, hn => by
  obtain ⟨h1, h2, h3⟩ := sep_cons.1 hs
  have hsb := h s (by simp)
  obtain ⟨q1, q2⟩ := pf_bd (l := l) (n := n - min n (s.2 - s.1)) (fun t ht => h t (by simp [ht])) h3 (by omega)
  constructor
  ·intro t ht
   simp only [pfS] at ht
   rcases yN.1 ht with rfl | ht
   ·simp only; omega
   ·exact q1 t ht
  ·intro t ht
   simp only [prS] at ht
   rcases yN.1 ht with rfl | ht
   ·simp only; omega
   ·exact q2 t ht
theorem mid_snoc {l : List Sp} {s : Sp} (h : Bd l) (hs : (0 ≤ s.1 ∧ s.1 ≤ 1099511627776)) : Mid (l ++ [s]) := fun t ht => by
 rcases vR.1 ht with ht | ht
 ·have := h t ht; omega
 ·rw [vS] at ht; subst ht; omega
theorem ok38 (l : List Sp) (n : Int) (hl : Vd l) (hn : 0 ≤ n ∧ n ≤ 1099511627776) : Ok 38 [spans l, .i n] (Is (.tup [spans (takeS l n), spans (minusS l (takeS l n))])) := by
 rw [← of_prS hl.1 hn.1, ← of_pfS hl.1 hn.1]
 refine ok_of lw38 (by simp) ?_
 unfold c38
 simp -implicitDefEqProofs only [rX,↓rY,ofConst,↓reduceIte,reduceCtorEq,cxN,args0]
 intro hm
 refine loopP_ghost (.virt 2 2 (by decide) (.nilE 4 0 rfl (.nilE 5 1 rfl (.give (fun k => decide (k < 2)) (by simp) (.refl _))))) (fun k : Nat => ⟨[(11, .i k), (10, .i l.length), (9, .ro 2 (l.map enS)), (5, spans (ofS (prS (l.take k) n))), (4, spans (ofS (pfS (l.take k) n))), (1, .i (lstN (l.take k) n))], [], 0⟩) (fun k => k ≤ l.length) (fun k => l.length - k) 0 (by omega) ?_ ?_
 ·simp -implicitDefEqProofs only [rX,↓reduceIte,Nat.reduceEqDiff,reduceCtorEq,leE,leH,keepP,wfE,wfB,wfV,Nat.reduceLT,yE,yL,St.give,gvE,gvV,gvH,gvB]
  exact ⟨rfl, rfl, rfl⟩
 rintro k hk
 have htk := hl.take k
 have hb := lstN_b htk.1 hn.1
 obtain ⟨q1, q2⟩ := pf_bd htk.2 htk.1 hn.1
 have v1 := Vd.of q1
 have v2 := Vd.of q2
 have w1 := v1.len
 have w2 := v2.len
 unfold c38l0
 rcases yG k l.length with hk' | hk'
 ·have hd : decide ((k : Int) < (l.length : Int)) = true := decide_eq_true (by omega)
  have hlb := hl.2 _ (yH hk')
  have hls := hl.1.1 _ (yH hk')
  obtain ⟨e1, e2, e3⟩ := lst_step (n := n) hk'
  simp -implicitDefEqProofs only [rX,↓rY,ofConst,cells?,splice,↓reduceIte,Nat.reduceEqDiff,Nat.reduceAdd,freshP,buildP,Nat.reduceLeDiff,enS_len,enS_take,enS_0,enS_1,enS_C,hd]
  refine ⟨⟨by omega, by omega⟩, hk', by simp only [lo, hi]; omega, by simp only [lo, hi]; omega, by simp only [lo, hi]; omega, ?_⟩
  refine call_is (ok65 (ofS (pfS (l.take k) n)) (l[k].1, l[k].1 + min (lstN (l.take k) n) (l[k].2 - l[k].1)) (by omega) v1.1 (mid_snoc v1.2 hlb.1)) ⟨⟨trivial, ⟨trivial, trivial, trivial⟩, trivial⟩, ⟨rfl, rfl⟩, ⟨rfl, rfl, trivial⟩, trivial⟩ rfl trivial ?_
  simp -implicitDefEqProofs only [rX,↓rY,cells?,splice,↓reduceIte,Nat.reduceEqDiff,Nat.reduceAdd,buildP,Nat.reduceLeDiff,enS_0,enS_1]
  refine ⟨by simp only [lo, hi]; omega, ?_⟩
  refine call_is (ok65 (ofS (prS (l.take k) n)) (l[k].1 + min (lstN (l.take k) n) (l[k].2 - l[k].1), l[k].2) (by omega) v2.1 (mid_snoc v2.2 (by simp only; omega))) ⟨⟨trivial, ⟨trivial, trivial, trivial⟩, trivial⟩, ⟨rfl, rfl⟩, ⟨rfl, rfl, trivial⟩, trivial⟩ rfl trivial ?_
  simp -implicitDefEqProofs only [rX,↓rY,ofConst,↓reduceIte,Nat.reduceEqDiff,leE,leH,keepP,wfE,wfB,wfV]
  refine ⟨by simp only [lo, hi, maxLen] at *; omega, k + 1, ⟨by omega, by omega⟩, ?_⟩
  rw [e1, e2, e3, ofS_snoc, ofS_snoc]
  simp
 ·have hd : decide ((k : Int) < (l.length : Int)) = false := decide_eq_false (by omega)
  rw [yD hk']
  simp -implicitDefEqProofs only [rX,↓rY,↓reduceIte,Nat.reduceEqDiff,resP,tupV,wfV,wfL,hd]
end Go.Fx.O
namespace Go.Fx.O
open Go Go.Fx Go.Proofs Go.Fx.R
set_option maxRecDepth 20000
structure Dig where
 a0 : Int
 a1 : Int
 a2 : Int
 a3 : Int
 a4 : Int
 a5 : Int
 a6 : Int
 a7 : Int
 a8 : Int
 a9 : Int
 a10 : Int
 a11 : Int
 a12 : Int
 a13 : Int
 a14 : Int
 a15 : Int
 deriving DecidableEq, Inhabited
abbrev u8 (x : Int) : V := .v (.int .u8 x)
abbrev Dig.enc (d : Dig) : List V := [u8 d.a0, u8 d.a1, u8 d.a2, u8 d.a3, u8 d.a4, u8 d.a5, u8 d.a6, u8 d.a7, u8 d.a8, u8 d.a9, u8 d.a10, u8 d.a11, u8 d.a12, u8 d.a13, u8 d.a14, u8 d.a15]
structure Gift where
 to : Int
 serial : Int
 uses : List Sp
 deriving DecidableEq, Inhabited
def Gift.enc (g : Gift) : List V := [.i g.to, .i g.serial, spans g.uses]
abbrev gifts (l : List Gift) : V := .ro 3 (l.map Gift.enc)
structure Purse where
 id : Dig
 me : Int
 left : List Sp
 spent : List Sp
 sent : List Sp
 heard : List Sp
 out : List Gift
 deriving DecidableEq, Inhabited
abbrev Purse.enc (p : Purse) : List V := [u8 p.id.a0, u8 p.id.a1, u8 p.id.a2, u8 p.id.a3, u8 p.id.a4, u8 p.id.a5, u8 p.id.a6, u8 p.id.a7, u8 p.id.a8, u8 p.id.a9, u8 p.id.a10, u8 p.id.a11, u8 p.id.a12, u8 p.id.a13, u8 p.id.a14, u8 p.id.a15, .i p.me, spans p.left, spans p.spent, spans p.sent, spans p.heard, gifts p.out]
theorem eq_dig {d e : Dig} {K : Bool → Prop} : (optK (aggC (V.agg d.enc)) fun xs => optK (aggC (V.agg e.enc)) fun ys => eqFs xs ys ((List.range' 0 16).map fun i => (i, TypeDesc.int IntKind.u8)) K) = K (d == e) := by
 have hr : (List.range' 0 16).map (fun i => (i, TypeDesc.int IntKind.u8)) = [(0, .int .u8), (1, .int .u8), (2, .int .u8), (3, .int .u8), (4, .int .u8), (5, .int .u8), (6, .int .u8), (7, .int .u8), (8, .int .u8), (9, .int .u8), (10, .int .u8), (11, .int .u8), (12, .int .u8), (13, .int .u8), (14, .int .u8), (15, .int .u8)] := rfl
 rw [hr]
 have e1 : (d.a0 == e.a0 && (d.a1 == e.a1 && (d.a2 == e.a2 && (d.a3 == e.a3 && (d.a4 == e.a4 && (d.a5 == e.a5 && (d.a6 == e.a6 && (d.a7 == e.a7 && (d.a8 == e.a8 && (d.a9 == e.a9 && (d.a10 == e.a10 && (d.a11 == e.a11 && (d.a12 == e.a12 && (d.a13 == e.a13 && (d.a14 == e.a14 && (d.a15 == e.a15 && true)))))))))))))))) = (d == e) := by
  cases d; cases e
  rw [vF]
  simp
 apply propext
 rw [← e1]
 constructor
 ·exact fun h => h.2.2.2.2.2.2.2.2.2.2.2.2.2.2.2.2
 ·exact fun h => ⟨⟨rfl, rfl⟩, ⟨rfl, rfl⟩, ⟨rfl, rfl⟩, ⟨rfl, rfl⟩, ⟨rfl, rfl⟩, ⟨rfl, rfl⟩, ⟨rfl, rfl⟩, ⟨rfl, rfl⟩, ⟨rfl, rfl⟩, ⟨rfl, rfl⟩, ⟨rfl, rfl⟩, ⟨rfl, rfl⟩, ⟨rfl, rfl⟩, ⟨rfl, rfl⟩, ⟨rfl, rfl⟩, ⟨rfl, rfl⟩, h⟩
end Go.Fx.O
namespace Go.Fx.O
open Go Go.Fx Go.Proofs Go.Fx.R
set_option maxRecDepth 20000
def zeroP : Purse := ⟨⟨0, 0, 0, 0, 0, 0, 0, 0, 0, 0, 0, 0, 0, 0, 0, 0⟩, 0, [], [], [], [], []⟩
def leftN (n : Int) : List Sp := if n ≤ 0 then [] else [(1, 1 + n)]
theorem leftN_of {n : Int} : ofS [(1, 1 + n)] = leftN n := by
 show addS [] (1, 1 + n) = _
 unfold addS leftN
 by_cases h : n ≤ 0
 ·rw [if_pos h, if_pos (by simp only; omega)]
 ·rw [if_neg h, if_neg (by simp only; omega)]; rfl
def newP (id : Dig) (me n : Int) : Purse × Int :=
 if (!partyB me || decide (n < 0)) = true then (zeroP, 1) else if 1073741824 < n then (zeroP, 2) else (⟨id, me, leftN n, [], [], [], []⟩, 0)
theorem ok29 (id : Dig) (me n : Int) (hn : n ≤ 9223372036854775807) : Ok 29 [.agg id.enc, .i me, .i n] (Is (.tup [.agg (newP id me n).1.enc, .i (newP id me n).2])) := by
 refine okN_gv ?_
 refine ok_of lw29 (by simp) ?_
 unfold c29
 simp -implicitDefEqProofs only [rX,↓rY,ofConst,cells?,↓reduceIte,Nat.reduceEqDiff,Nat.reduceAdd,reduceCtorEq,freshP,cxN,zc22,args0]
 refine call_is (ok41 me) ⟨⟨trivial, trivial⟩, rfl, trivial⟩ rfl trivial ?_
 have hp : ∀ (P : Purse) (e : Int), newP id me n = (P, e) → (newP id me n).1 = P ∧ (newP id me n).2 = e := fun P e h => by rw [h]; exact ⟨rfl, rfl⟩
 cases h1 : partyB me with
 | false =>
  obtain ⟨e1, e2⟩ := hp zeroP 1 (by simp [newP, h1])
  rw [e1, e2]
  simp -implicitDefEqProofs only [rX,↓rY,ofConst,cells?,splice,↓reduceIte,Nat.reduceEqDiff,Nat.reduceAdd,buildP,isC]
  refine ret_data ?_
  simp -implicitDefEqProofs only [rX,↓rY,↓reduceIte,Nat.reduceEqDiff,Nat.reduceAdd,resP,tupV,wfV,wfL,yC,yB,yA]
  simp [Gv, tupV, gvV, gvL, wk, wkL, wkR, wfV, wfL, zeroP]
 | true =>
  cases h2 : decide (n < 0) with
  | true =>
   obtain ⟨e1, e2⟩ := hp zeroP 1 (by unfold newP; rw [h1, h2]; rfl)
   rw [e1, e2]
   simp -implicitDefEqProofs only [rX,↓rY,rdK,ofConst,cells?,splice,↓reduceIte,Nat.reduceEqDiff,Nat.reduceAdd,reduceCtorEq,freshP,buildP,litsP,isD,isC,Nat.reduceLT,Nat.reduceLeDiff,h2]
   refine ret_data ?_
   simp -implicitDefEqProofs only [rX,↓rY,↓reduceIte,Nat.reduceEqDiff,Nat.reduceAdd,resP,tupV,wfV,wfL,yC,yB,yA]
   simp [Gv, tupV, gvV, gvL, wk, wkL, wkR, wfV, wfL, zeroP]
  | false =>
   have h2' : ¬ n < 0 := by simpa using h2
   cases h3 : decide (1073741824 < n) with
   | true =>
    have h3' : 1073741824 < n := by simpa using h3
    obtain ⟨e1, e2⟩ := hp zeroP 2 (by simp [newP, h1, h2, h3'])
    rw [e1, e2]
    simp -implicitDefEqProofs only [rX,↓rY,rdK,ofConst,cells?,splice,↓reduceIte,Nat.reduceEqDiff,Nat.reduceAdd,reduceCtorEq,freshP,buildP,litsP,isD,isC,Nat.reduceLT,Nat.reduceLeDiff,h2,h3]
    refine ret_data ?_
    simp -implicitDefEqProofs only [rX,↓rY,↓reduceIte,Nat.reduceEqDiff,Nat.reduceAdd,resP,tupV,wfV,wfL,yC,yB,yA]
    simp [Gv, tupV, gvV, gvL, wk, wkL, wkR, wfV, wfL, zeroP]
   | false =>
    have h3' : ¬ 1073741824 < n := by simpa using h3
    obtain ⟨e1, e2⟩ := hp ⟨id, me, leftN n, [], [], [], []⟩ 0 (by simp [newP, h1, h2, h3'])
    rw [e1, e2]
    simp -implicitDefEqProofs only [rX,↓rY,rdK,ofConst,cells?,splice,↓reduceIte,Nat.reduceEqDiff,Nat.reduceAdd,reduceCtorEq,freshP,buildP,litsP,isD,isC,Nat.reduceLT,Nat.reduceLeDiff,h2,h3]
    have h2n : ¬ n < 0 := by simpa using h2
    refine ⟨by simp only [lo, hi]; omega, ?_⟩
    refine call_58m [(1, 1 + n)] rfl (by simp) (fun s hs => by rw [vS] at hs; subst hs; simp) rfl rfl (by simp) trivial ?_
    rw [leftN_of]
    simp -implicitDefEqProofs only [rX,↓rY,ofConst,cells?,splice,↓reduceIte,Nat.reduceEqDiff,Nat.reduceAdd,reduceCtorEq,buildP,killE,killB,kill,kills,St.kill,isC,Nat.reduceLeDiff,yC,yB,yA]
    refine ret_data ?_
    simp -implicitDefEqProofs only [rX,↓rY,↓reduceIte,Nat.reduceEqDiff,Nat.reduceAdd,resP,tupV,wfV,wfL,yB,yA]
    simp [Gv, tupV, gvV, gvL, wk, wkL, wkR, wfV, wfL]
end Go.Fx.O
namespace Go.Fx.O
open Go Go.Fx Go.Proofs Go.Fx.R
set_option maxRecDepth 20000
theorem raw61 (l : List Sp) (hl : l.length ≤ 4398046511104) : Ok 61 [spans l] (fun r h => IsA (.sl 0 0 l.length) [.arr 2 (l.map enS)] r h ∨ (l = [] ∧ IsA .nil [] r h)) := by
 refine ok_of lw61 (by simp) ?_
 unfold c61 spans
 simp -implicitDefEqProofs only [rX,↓rY,ofConst,↓reduceIte,Nat.reduceEqDiff,reduceCtorEq,freshP,litsP,killE,killB,kill,St.kill,cxN,args0]
 have hA : retP [] 0 [LRes.tmp 2] (fun r h => IsA (.sl 0 0 l.length) [.arr 2 (l.map enS)] r h ∨ (l = [] ∧ IsA .nil [] r h)) ⟨[(2, V.sl 0 0 l.length), (7, V.sl 0 0 l.length), (6, V.ro 2 (yO enS l)), (5, V.any), (4, V.b false), (3, V.ro 2 (yO enS l)), (2, V.v (Value.slice none 0 0)), (0, V.ro 2 (yO enS l))], [Blk.arr 2 (yO enS l), Blk.dead], 0⟩ := by
  rw [retP_eq]
  simp -implicitDefEqProofs only [rX,↓reduceIte,resP,tupV,keepP,liveP,wfV]
  exact ⟨[.arr 2 (l.map enS)], ⟨by simp [leH, leB], by simp [wfV, wfL, liveP], by simp [wfB]⟩, .inl ⟨rfl, rfl⟩⟩
 refine ⟨fun _ => ⟨.inr trivial, by omega, hA⟩, fun h => ⟨?_, .inr trivial, by omega, hA⟩⟩
 have h0 : l = [] := by simpa using h
 rw [retP_eq]
 simp -implicitDefEqProofs only [rX,↓reduceIte,resP,tupV,keepP,wfV]
 exact ⟨[], ⟨by simp [leH], by simp, by simp [wfB]⟩, .inr ⟨h0, rfl, rfl⟩⟩
theorem ok61A (l : List Sp) (hl : l.length ≤ 4398046511104) : Ok 61 [spans l] (IsA (.sl 0 0 l.length) [.arr 2 (l.map enS)]) := by
 refine okN_ghost (raw61 l hl) ?_
 rintro r h (⟨rfl, rfl⟩ | ⟨rfl, rfl, rfl⟩)
 ·exact ⟨_, _, ⟨rfl, rfl⟩, _, .refl _, by simp -implicitDefEqProofs only [rX,↓reduceIte,leE,leH,leB,keepP,liveP,wfE,wfB,wfV]⟩
 ·refine ⟨_, _, ⟨rfl, rfl⟩, _, .virt 1 2 (by decide) (.nilE 0 0 rfl (.refl _)), ?_⟩
  simp -implicitDefEqProofs only [rX,↓reduceIte,leE,leH,leB,keepP,liveP,wfE,wfB,wfV,yL]
theorem MkOk.len {l : List Sp} {me : Int} (h : MkOk l me) : l.length ≤ 128 := by
 have key : ∀ k (hk : k < l.length), (k : Int) ≤ l[k].1 := by
  intro k
  induction k with
  | zero => intro hk; exact (h.at hk).1.1.1
  | succ k ih =>
   intro hk
   have h1 := ih (by omega)
   have h2 := (h.at hk).2 (by omega)
   simp only [Nat.add_sub_cancel] at h2
   omega
 rcases yG 128 l.length with c | c
 ·have h1 := key 128 c
  have h2 := (h.at c).1.1.2
  omega
 ·exact c
theorem mkB_iff {l : List Sp} {me : Int} : mkB l me = true ↔ MkOk l me := decide_eq_true_iff
def later (out : List Gift) (k : Nat) (to : Int) : Nat := ((out.drop k).filter fun g => g.to == to).length
def frontB (p : Purse) : Bool := partyB p.me && usB p.left && usB p.spent && decide ((meetS p.left p.spent).length = 0) && mkB p.sent p.me && mkB p.heard p.me && decide (p.out.length ≤ 64)
def goodB (p : Purse) (k : Nat) (h : k < p.out.length) : Bool :=
 isM p.sent p.out[k].to && decide (p.out[k].uses.length ≠ 0) && usB p.out[k].uses && (p.out[k].serial == markOf p.sent p.out[k].to - later p.out (k + 1) p.out[k].to) && decide (1 ≤ p.out[k].serial)
def Gds (p : Purse) : Prop := ∀ k (h : k < p.out.length), goodB p k h = true
instance {p : Purse} : Decidable (Gds p) := inferInstanceAs (Decidable (∀ k (h : k < p.out.length), goodB p k h = true))
def rtB (p : Purse) : Bool := frontB p && decide (Gds p)
def chkE (p : Purse) : Int := if rtB p then 0 else 1
theorem chk_front {p : Purse} (h : frontB p = false) : chkE p = 1 := by unfold chkE rtB; rw [h]; rfl
theorem chk_bad {p : Purse} {k : Nat} (hk : k < p.out.length) (h : goodB p k hk = false) : chkE p = 1 := by
 unfold chkE rtB
 rw [if_neg]
 rw [yM, decide_eq_true_eq]
 rintro ⟨_, h2⟩
 rw [h2 k hk] at h; cases h
theorem chk_ok {p : Purse} (h : frontB p = true) (h2 : Gds p) : chkE p = 0 := by
 unfold chkE rtB
 rw [if_pos]
 rw [h, decide_eq_true h2]; rfl
end Go.Fx.O
namespace Go.Fx.O
open Go Go.Fx Go.Proofs Go.Fx.R
set_option maxRecDepth 20000
def setM (l : List Sp) (who n : Int) : List Sp := (l.filter fun m => decide (m.1 < who)) ++ (who, n) :: l.filter fun m => decide (who < m.1)
theorem mks_split {l : List Sp} (hm : Mks l) (who : Int) : l.take (posM l who) = (l.filter fun m => decide (m.1 < who)) ∧ l.drop (if isM l who then posM l who + 1 else posM l who) = (l.filter fun m => decide (who < m.1)) ∧ posM l who ≤ l.length := by
 induction l with
 | nil => simp [posM, isM]
 | cons m l ih =>
  obtain ⟨h1, h2⟩ := mks_cons.1 hm
  obtain ⟨i1, i2, i3⟩ := ih h2
  rcases vL m.1 who with c | c | c
  ·have e1 : posM (m :: l) who = posM l who + 1 := by simp [posM, c]
   have e2 : isM (m :: l) who = isM l who := by simp [isM]; intro h; omega
   rw [e1, e2, yB, i1, yW (by simpa using c), yI (by simp; omega), ← i2]
   refine ⟨rfl, ?_, by simp; omega⟩
   split <;> rfl
  ·have hno : l.filter (fun m => decide (m.1 < who)) = [] := by
    rw [yS]; intro t ht; have := h1 t ht; simp; omega
   have hall : l.filter (fun m => decide (who < m.1)) = l := by
    rw [yV]; intro t ht; have := h1 t ht; simp; omega
   have e1 : posM (m :: l) who = 0 := by unfold posM; rw [yI (by simp; omega), hno]; rfl
   have e2 : isM (m :: l) who = true := by simp [isM, c]
   rw [e1, e2, yI (by simp; omega), yI (by simp; omega), hno, hall]
   simp
  ·have hno : l.filter (fun m => decide (m.1 < who)) = [] := by
    rw [yS]; intro t ht; have := h1 t ht; simp; omega
   have hall : l.filter (fun m => decide (who < m.1)) = l := by
    rw [yV]; intro t ht; have := h1 t ht; simp; omega
   have e1 : posM (m :: l) who = 0 := by
    unfold posM; rw [yI (by simp; omega), hno]; rfl
   have e2 : isM (m :: l) who = false := by
    unfold isM; rw [vU]; intro t ht
    rcases yN.1 ht with rfl | ht
    ·simp; omega
    ·have := h1 t ht; simp; omega
   rw [e1, e2, yI (by simp; omega), yW (by simpa using c), hno, hall]
   simp
theorem setM_ins {l : List Sp} {who n : Int} (hm : Mks l) (h : isM l who = false) : insL l (posM l who) (who, n) = setM l who n := by
 obtain ⟨h1, h2, _⟩ := mks_split hm who
 rw [h] at h2
 unfold insL setM
 rw [h1]
 simp only [vV, if_false] at h2
 rw [h2]
theorem setM_set {l : List Sp} {who n : Int} (hm : Mks l) (h : isM l who = true) : l.set (posM l who) (who, n) = setM l who n := by
 obtain ⟨h1, h2, _⟩ := mks_split hm who
 obtain ⟨hk, _, _⟩ := posM_at hm h
 rw [h] at h2
 unfold setM
 simp only [if_true] at h2
 rw [← h1, ← h2, List.set_eq_take_append_cons_drop, if_pos hk]
theorem ok66Q (l : List Sp) (i : Nat) (m : Sp) (hi : i ≤ l.length) (hn : l.length ≤ 4398046511104) :
  OkN Tryz.prog 66 [.sl 0 0 l.length, .i i, .sl 1 0 1] [.arr 2 (l.map enS), .arr 2 [enS m]] [0, 1] (IsQ (fun _ : Unit => True) (fun _ => .sl 0 0 (insL l i m).length) (fun _ => [.arr 2 ((insL l i m).map enS), .dead])) :=
 okN_post (ok66 l i m hi hn) fun r h ⟨h1, h2⟩ => ⟨(), trivial, h1, h2⟩
theorem ok43 (l : List Sp) (who n : Int) (hm : Mks l) (hl : l.length ≤ 1000000) : Ok 43 [spans l, .i who, .i n] (Is (spans (setM l who n))) := by
 refine okN_gv ?_
 refine ok_of lw43 (by simp) ?_
 unfold c43
 simp -implicitDefEqProofs only [rX,ofConst,↓reduceIte,Nat.reduceAdd,reduceCtorEq,cxN,args0]
 refine call_isA [spans l] (.sl 0 0 l.length) (.sl 0 0 l.length) [.arr 2 (l.map enS)] [.arr 2 (l.map enS)] (ok61A l (by omega)) ⟨⟨trivial, trivial⟩, ⟨rfl, rfl⟩, trivial⟩ (by simp [ren]) (by simp [renB]) trivial ?_
 simp -implicitDefEqProofs only [rX,↓reduceIte,Nat.reduceEqDiff,reduceCtorEq]
 have htk : yF l.length (l.map enS) = l.map enS := yD (by simp)
 refine call_is (ok62 l who hm hl) ?_ rfl trivial ?_
 ·simp [lendsOk, lendOk, lends, lend, wkL, wk, wkB, pos, blk, htk]
 obtain ⟨s1, s2, s3⟩ := mks_split hm who
 cases h : isM l who with
 | true =>
  obtain ⟨h1, h2, h3⟩ := posM_at hm h
  simp -implicitDefEqProofs only [rX,↓rY,cells?,splice,↓reduceIte,Nat.reduceEqDiff,arrSz,Nat.reduceAdd,reduceCtorEq,isD,isC,enS_drop]
  refine ⟨⟨by omega, by omega⟩, h1, ?_⟩
  have he : (l.map enS).set (posM l who) (yF 1 (enS l[posM l who]) ++ [V.v (Value.int IntKind.i64 n)]) = (setM l who n).map enS := by
   rw [← setM_set hm h, List.map_set]
   congr 1
   show [V.v (Value.int IntKind.i64 l[posM l who].1), V.v (Value.int IntKind.i64 n)] = _
   rw [h2]; rfl
  rw [he]
  exact ret_sl rfl rfl (by rw [List.length_map, ← setM_set hm h, List.length_set])
 | false =>
  simp -implicitDefEqProofs only [rX,↓rY,cells?,splice,↓reduceIte,Nat.reduceEqDiff,Nat.reduceAdd,reduceCtorEq,freshP,buildP,litsP,isD,Nat.reduceLT,Nat.reduceLeDiff]
  refine call_isM (fun _ : Unit => True) [0, 1] [0, 1] [0, 1] [.sl 0 0 l.length, .i (posM l who), .sl 1 0 1] (fun _ => .sl 0 0 (insL l (posM l who) (who, n)).length) [.arr 2 (l.map enS), .arr 2 [enS (who, n)]] (fun _ => [.arr 2 ((insL l (posM l who) (who, n)).map enS), .dead]) (ok66Q l (posM l who) (who, n) s3 (by omega)) (by simp) (by simp) (by simp [renB, enS, blk]) (by simp [lendsOk, lendOk, lends, lend, wkL, wk, pos]) ?_
  rintro ⟨⟩ _
  refine ⟨trivial, ?_⟩
  rw [setM_ins hm h]
  simp -implicitDefEqProofs only [rX,↓reduceIte,Nat.reduceAdd,reduceCtorEq,killE,killB,kill,kills,St.kill]
  exact ret_sl rfl rfl (by simp)
end Go.Fx.O
namespace Go.Fx.O
open Go Go.Fx Go.Proofs Go.Fx.R
set_option maxRecDepth 20000
def mstep (who n : Int) (a : List Sp × Bool) (m : Sp) : List Sp × Bool :=
 let d := !a.2 && decide (who ≤ m.1)
 let o := if d then a.1 ++ [(who, n)] else a.1
 (if m.1 != who then o ++ [m] else o, a.2 || decide (who ≤ m.1))
def mfold (l : List Sp) (who n : Int) : List Sp × Bool := l.foldl (mstep who n) ([], false)
theorem mfold_step {l : List Sp} {who n : Int} {k : Nat} (hk : k < l.length) : mfold (l.take (k + 1)) who n = mstep who n (mfold (l.take k) who n) l[k] := by
 unfold mfold
 rw [yJ, yK hk, vD]
 rfl
theorem mstep_len {who n : Int} {a : List Sp × Bool} {m : Sp} : (mstep who n a m).1.length ≤ a.1.length + 2 := by
 unfold mstep
 simp only
 split <;> split <;> simp
theorem mfold_true {who n : Int} : ∀ {l : List Sp} {acc : List Sp}, (∀ m ∈ l, who < m.1) → l.foldl (mstep who n) (acc, true) = (acc ++ l, true)
 | [], acc, _ => by simp
 | m :: l, acc, h => by
  have h1 := h m (by simp)
  rw [yX]
  have : mstep who n (acc, true) m = (acc ++ [m], true) := by
   unfold mstep
   have : (m.1 != who) = true := by simp; omega
   simp [this]
  rw [this, mfold_true fun t ht => h t (by simp [ht])]
  simp
theorem mfold_gen {who n : Int} : ∀ {l : List Sp} {acc : List Sp}, Mks l → (l.foldl (mstep who n) (acc, false)).1 ++ (if (l.foldl (mstep who n) (acc, false)).2 then [] else [(who, n)]) = acc ++ setM l who n
 | [], acc, _ => by simp [setM]
 | m :: l, acc, h => by
  obtain ⟨h1, h2⟩ := mks_cons.1 h
  rw [yX]
  rcases vL m.1 who with c | c | c
  ·have : mstep who n (acc, false) m = (acc ++ [m], false) := by
    unfold mstep
    have e1 : (m.1 != who) = true := by simp; omega
    have e2 : decide (who ≤ m.1) = false := by simp; omega
    simp [e1, e2]
   rw [this, mfold_gen h2]
   unfold setM
   rw [yW (by simpa using c), yI (by simp; omega)]
   simp
  ·have hno : l.filter (fun m => decide (m.1 < who)) = [] := by
    rw [yS]; intro t ht; have := h1 t ht; simp; omega
   have hall : l.filter (fun m => decide (who < m.1)) = l := by
    rw [yV]; intro t ht; have := h1 t ht; simp; omega
   have : mstep who n (acc, false) m = (acc ++ [(who, n)], true) := by
    unfold mstep
    have e1 : (m.1 != who) = false := by simp; omega
    have e2 : decide (who ≤ m.1) = true := by simp; omega
    simp [e1, e2]
   rw [this, mfold_true fun t ht => by have := h1 t ht; omega]
   unfold setM
   rw [yI (by simp; omega), yI (by simp; omega), hno, hall]
   simp
  ·have hno : l.filter (fun m => decide (m.1 < who)) = [] := by
    rw [yS]; intro t ht; have := h1 t ht; simp; omega
   have hall : l.filter (fun m => decide (who < m.1)) = l := by
    rw [yV]; intro t ht; have := h1 t ht; simp; omega
   have : mstep who n (acc, false) m = (acc ++ [(who, n)] ++ [m], true) := by
    unfold mstep
    have e1 : (m.1 != who) = true := by simp; omega
    have e2 : decide (who ≤ m.1) = true := by simp; omega
    simp [e1, e2]
   rw [this, mfold_true fun t ht => by have := h1 t ht; omega]
   unfold setM
   rw [yI (by simp; omega), yW (by simpa using c), hno, hall]
   simp
theorem ok48 (l : List Sp) (who n : Int) (hm : Mks l) (hl : l.length ≤ 1000000) : Ok 48 [spans l, .i who, .i n] (Is (spans (setM l who n))) := by
 refine okN_gv ?_
 refine ok_of lw48 (by simp) ?_
 unfold c48
 simp -implicitDefEqProofs only [rX,ofConst,Nat.reduceAdd,cxN,args0]
 refine loopP_ghost (.virt 1 2 (by decide) (.nilE 7 0 rfl (.refl _))) (fun k : Nat => ⟨[(9, .i k), (8, .b (mfold (l.take k) who n).2), (7, .sl 0 0 (mfold (l.take k) who n).1.length), (0, spans l), (1, .i who), (2, .i n)], [.arr 2 ((mfold (l.take k) who n).1.map enS)], 0⟩) (fun k => k ≤ l.length ∧ (mfold (l.take k) who n).1.length ≤ 2 * k) (fun k => l.length - k) 0 ⟨by omega, by simp [mfold]⟩ ?_ ?_
 ·simp -implicitDefEqProofs only [rX,↓reduceIte,Nat.reduceEqDiff,reduceCtorEq,leE,leH,leB,keepP,liveP,wfE,wfB,wfV,yE,yL,mfold,vA]
 rintro k ⟨hk, hkl⟩
 unfold c48l0
 rcases yG k l.length with hk' | hk'
 ·have hd : decide ((k : Int) < (l.length : Int)) = true := decide_eq_true (by omega)
  have hst := mfold_step (who := who) (n := n) hk'
  have hsl := mstep_len (who := who) (n := n) (a := mfold (l.take k) who n) (m := l[k])
  rw [← hst] at hsl
  have htk2 : yF (mfold (l.take k) who n).1.length ((mfold (l.take k) who n).1.map enS) = (mfold (l.take k) who n).1.map enS := yD (by simp)
  have hkk : (0 : Int) ≤ k ∧ (k : Int) < l.length := ⟨by omega, by omega⟩
  have hend : ∀ (d : Bool) (o : List Sp) (N : Nat) (x : List (List V)), (mfold (l.take (k + 1)) who n) = (o, d) → N = o.length → x = o.map enS →
    ((lo IntKind.i64 ≤ (k : Int) + 1 ∧ (k : Int) + 1 ≤ hi IntKind.i64) ∧ ∃ g', ((g' ≤ l.length ∧ (mfold (l.take g') who n).1.length ≤ 2 * g') ∧ l.length - g' < l.length - k) ∧ ((k : Int) + 1 = (g' : Int) ∧ d = (mfold (l.take g') who n).2 ∧ V.sl 0 0 N = V.sl 0 0 (mfold (l.take g') who n).1.length) ∧
      Blk.arr 2 x = Blk.arr 2 ((mfold (l.take g') who n).1.map enS)) := by
   rintro d o N x he rfl rfl
   refine ⟨by simp only [lo, hi]; omega, k + 1, ⟨⟨by omega, by omega⟩, by omega⟩, ?_⟩
   rw [he]
   exact ⟨⟨by simp, rfl, rfl⟩, rfl⟩
  cases h1 : (mfold (l.take k) who n).2 with
  | true =>
   simp -implicitDefEqProofs only [rX,↓rY,ofConst,cells?,↓reduceIte,Nat.reduceEqDiff,Nat.reduceAdd,reduceCtorEq,freshP,litsP,leE,leH,leB,keepP,liveP,wfE,wfB,wfV,killE,killB,kill,St.kill,Nat.reduceLT,enS_len,enS_take,enS_0,enS_D,enS_kill,hd,htk2]
   intro _
   refine ⟨hkk, hk', ?_⟩
   cases h3 : l[k].1 != who with
   | true => exact ⟨fun _ => ⟨hkk, hk', by omega, hend _ ((mfold (l.take k) who n).1 ++ [l[k]]) _ _ (by rw [hst]; unfold mstep; simp [h1, h3]) (by simp) (by simp)⟩, fun h => by cases h⟩
   | false => exact ⟨fun h => (by cases h), fun _ => hend _ (mfold (l.take k) who n).1 _ _ (by rw [hst]; unfold mstep; simp [h1, h3]) rfl rfl⟩
  | false =>
   cases h2 : decide (who ≤ l[k].1) with
   | true =>
    cases h3 : l[k].1 != who with
    | true =>
     simp -implicitDefEqProofs only [rX,↓rY,ofConst,cells?,splice,↓reduceIte,Nat.reduceEqDiff,Nat.reduceAdd,reduceCtorEq,freshP,buildP,litsP,leE,leH,leB,keepP,liveP,wfE,wfB,wfV,killE,killB,kill,St.kill,isD,Nat.reduceLT,Nat.reduceLeDiff,enS_len,enS_take,enS_0,enS_D,enS_kill,hd,h2,h3,htk2]
     exact fun _ => ⟨hkk, hk', by omega, hkk, hk', hkk, hk', by omega, hend _ ((mfold (l.take k) who n).1 ++ [(who, n)] ++ [l[k]]) _ _ (by rw [hst]; unfold mstep; simp only [h1, h2, h3]; rfl) (by simp) (by rw [yD (by simp)]; simp [enS])⟩
    | false =>
     simp -implicitDefEqProofs only [rX,↓rY,ofConst,cells?,splice,↓reduceIte,Nat.reduceEqDiff,Nat.reduceAdd,reduceCtorEq,freshP,buildP,litsP,leE,leH,leB,keepP,liveP,wfE,wfB,wfV,killE,killB,kill,St.kill,isD,Nat.reduceLT,Nat.reduceLeDiff,enS_0,hd,h2,h3,htk2]
     exact fun _ => ⟨hkk, hk', by omega, hkk, hk', hend _ ((mfold (l.take k) who n).1 ++ [(who, n)]) _ _ (by rw [hst]; unfold mstep; simp only [h1, h2, h3]; rfl) (by simp) (by simp [enS])⟩
   | false =>
    have h3 : (l[k].1 != who) = true := by simp at h2; simp; omega
    simp -implicitDefEqProofs only [rX,↓rY,ofConst,cells?,↓reduceIte,Nat.reduceEqDiff,Nat.reduceAdd,reduceCtorEq,freshP,litsP,leE,leH,leB,keepP,liveP,wfE,wfB,wfV,killE,killB,kill,St.kill,Nat.reduceLT,enS_len,enS_take,enS_0,enS_D,enS_kill,hd,h2,h3,htk2]
    exact fun _ => ⟨hkk, hk', hkk, hk', hkk, hk', by omega, hend _ ((mfold (l.take k) who n).1 ++ [l[k]]) _ _ (by rw [hst]; unfold mstep; simp only [h1, h2, h3]; rfl) (by simp) (by simp)⟩
 ·have hd : decide ((k : Int) < (l.length : Int)) = false := decide_eq_false (by omega)
  rw [yD hk'] at *
  have hg := mfold_gen (who := who) (n := n) (acc := []) hm
  cases h1 : (mfold l who n).2 with
  | true =>
   simp -implicitDefEqProofs only [rX,↓rY,↓reduceIte,Nat.reduceEqDiff,reduceCtorEq,hd]
   have hg2 : (mfold l who n).1 = setM l who n := by
    unfold mfold at h1 ⊢
    rw [h1] at hg
    simpa using hg
   intro _
   rw [hg2]
   exact ret_sl rfl rfl (by simp)
  | false =>
   simp -implicitDefEqProofs only [rX,↓rY,cells?,splice,↓reduceIte,Nat.reduceEqDiff,Nat.reduceAdd,reduceCtorEq,freshP,buildP,litsP,killE,killB,kill,kills,St.kill,isD,Nat.reduceLT,Nat.reduceLeDiff,hd]
   have hg2 : (mfold l who n).1 ++ [(who, n)] = setM l who n := by
    unfold mfold at h1 ⊢
    rw [h1] at hg
    simpa using hg
   have hl2 : (mfold l who n).1.length + 1 = (setM l who n).length := by rw [← hg2]; simp
   have hx : yF (mfold l who n).1.length (yO enS (mfold l who n).1) ++ [[V.v (Value.int IntKind.i64 who), V.v (Value.int IntKind.i64 n)]] = (setM l who n).map enS := by
    rw [← hg2, yD (by simp), yP]; rfl
   intro _
   rw [hx, hl2]
   exact ⟨by omega, ret_sl rfl rfl (by simp)⟩
end Go.Fx.O
namespace Go.Fx.O
open Go Go.Fx Go.Proofs Go.Fx.R
set_option maxRecDepth 20000
def spendP (p : Purse) : Purse × Int × Int :=
 if p.left.length = 0 then (p, 0, 4)
 else if 1000 < (minusS p.left (takeS p.left 1)).length ∨ 1000 < (bothS p.spent (takeS p.left 1)).length then (p, 0, 2)
 else ({ p with left := minusS p.left (takeS p.left 1), spent := bothS p.spent (takeS p.left 1) }, ((takeS p.left 1).headD (0, 0)).1, 0)
theorem take_bd {l : List Sp} {n : Int} (h : Vd l) : Vd (takeS l n) := vd_of (sep_takeS h.1) fun x hx => h.in (takeS_in hx)
theorem take1_ne {l : List Sp} (h : Vd l) (hn : l.length ≠ 0) : 0 < (takeS l 1).length := by
 cases l with
 | nil => simp at hn
 | cons s l =>
  have := (sep_cons.1 h.1).1
  unfold takeS
  rw [if_neg (by omega)]
  simp
theorem headD_get {l : List Sp} (h : 0 < l.length) : l.headD (0, 0) = l[0] := by
 cases l with
 | nil => simp at h
 | cons s l => rfl
theorem ok10 (p : Purse) (hl : Vd p.left) (hs : Vd p.spent) : Ok 10 [.agg p.enc] (Is (.tup [.agg (spendP p).1.enc, .i (spendP p).2.1, .i (spendP p).2.2])) := by
 refine okN_gv ?_
 refine ok_of lw10 (by simp) ?_
 unfold c10
 simp -implicitDefEqProofs only [rX,↓rY,ofConst,cells?,splice,↓reduceIte,Nat.reduceEqDiff,Nat.reduceAdd,freshP,cxN,zc22,args0]
 have hp : ∀ (P : Purse) (u e : Int), spendP p = (P, u, e) → (spendP p).1 = P ∧ (spendP p).2.1 = u ∧ (spendP p).2.2 = e := fun P u e h => by rw [h]; exact ⟨rfl, rfl, rfl⟩
 simp -implicitDefEqProofs only [rX,yB]
 have hll := hl.len
 cases h1 : decide (p.left.length = 0) with
 | true =>
  have h1' : p.left.length = 0 := by simpa using h1
  have h1i : ((p.left.length : Int) == 0) = true := by simp [h1']
  obtain ⟨e1, e2, e3⟩ := hp p 0 4 (by unfold spendP; rw [if_pos h1'])
  rw [e1, e2, e3]
  simp -implicitDefEqProofs only [rX,↓rY,Nat.reduceAdd,isC,yC,yA,h1i]
  intro _
  refine ret_data ?_
  simp -implicitDefEqProofs only [rX,↓rY,↓reduceIte,Nat.reduceEqDiff,Nat.reduceAdd,resP,tupV,wfV,wfL,yB,yA]
  simp [Gv, tupV, gvV, gvL, wk, wkL, wkR, wfV, wfL]
 | false =>
  have h1' : p.left.length ≠ 0 := by simpa using h1
  have h1i : ((p.left.length : Int) == 0) = false := beq_false_of_ne (by omega)
  simp -implicitDefEqProofs only [rX,↓rY,Nat.reduceAdd,isC,yC,yA,h1i]
  intro _
  refine call_is (ok38 p.left 1 hl (by omega)) ⟨⟨trivial, trivial, trivial⟩, ⟨rfl, rfl⟩, rfl, trivial⟩ rfl trivial ?_
  simp -implicitDefEqProofs only [rX,↓rY,↓reduceIte,Nat.reduceEqDiff,Nat.reduceAdd]
  have htv := take_bd (n := 1) hl
  refine call_is (ok39 p.spent (takeS p.left 1) hs htv.2) ⟨⟨trivial, trivial, trivial⟩, ⟨rfl, rfl⟩, ⟨rfl, rfl⟩, trivial⟩ rfl trivial ?_
  have hml := (hl.minus (b := takeS p.left 1)).len
  have hbl := (hs.both htv.2).len
  have htk := take1_ne hl h1'
  cases h2 : decide (1000 < (minusS p.left (takeS p.left 1)).length) with
  | true =>
   have h2' : 1000 < (minusS p.left (takeS p.left 1)).length := by simpa using h2
   have h2i : decide ((1000 : Int) < ((minusS p.left (takeS p.left 1)).length : Int)) = true := decide_eq_true (by omega)
   obtain ⟨e1, e2, e3⟩ := hp p 0 2 (by unfold spendP; rw [if_neg h1', if_pos (.inl h2')])
   rw [e1, e2, e3]
   simp -implicitDefEqProofs only [rX,↓rY,rdK,ofConst,cells?,splice,↓reduceIte,Nat.reduceEqDiff,Nat.reduceAdd,reduceCtorEq,isC,Nat.reduceLeDiff,enS_0,yC,yB,yA,h2i]
   intro _
   refine ret_data ?_
   simp -implicitDefEqProofs only [rX,↓rY,↓reduceIte,Nat.reduceEqDiff,Nat.reduceAdd,resP,tupV,wfV,wfL,yB,yA]
   simp [Gv, tupV, gvV, gvL, wk, wkL, wkR, wfV, wfL]
  | false =>
   have h2' : ¬ 1000 < (minusS p.left (takeS p.left 1)).length := by simpa using h2
   have h2i : decide ((1000 : Int) < ((minusS p.left (takeS p.left 1)).length : Int)) = false := decide_eq_false (by omega)
   cases h3 : decide (1000 < (bothS p.spent (takeS p.left 1)).length) with
   | true =>
    have h3' : 1000 < (bothS p.spent (takeS p.left 1)).length := by simpa using h3
    have h3i : decide ((1000 : Int) < ((bothS p.spent (takeS p.left 1)).length : Int)) = true := decide_eq_true (by omega)
    obtain ⟨e1, e2, e3⟩ := hp p 0 2 (by unfold spendP; rw [if_neg h1', if_pos (.inr h3')])
    rw [e1, e2, e3]
    simp -implicitDefEqProofs only [rX,↓rY,rdK,ofConst,cells?,splice,↓reduceIte,Nat.reduceEqDiff,Nat.reduceAdd,reduceCtorEq,isC,Nat.reduceLeDiff,enS_0,yC,yB,yA,h2i,h3i]
    intro _ _
    refine ret_data ?_
    simp -implicitDefEqProofs only [rX,↓rY,↓reduceIte,Nat.reduceEqDiff,Nat.reduceAdd,resP,tupV,wfV,wfL,yB,yA]
    simp [Gv, tupV, gvV, gvL, wk, wkL, wkR, wfV, wfL]
   | false =>
    have h3' : ¬ 1000 < (bothS p.spent (takeS p.left 1)).length := by simpa using h3
    have h3i : decide ((1000 : Int) < ((bothS p.spent (takeS p.left 1)).length : Int)) = false := decide_eq_false (by omega)
    obtain ⟨e1, e2, e3⟩ := hp { p with left := minusS p.left (takeS p.left 1), spent := bothS p.spent (takeS p.left 1) } ((takeS p.left 1).headD (0, 0)).1 0 (by unfold spendP; rw [if_neg h1', if_neg (by omega)])
    rw [e1, e2, e3, headD_get htk]
    simp -implicitDefEqProofs only [rX,↓rY,rdK,ofConst,cells?,splice,↓reduceIte,Nat.reduceEqDiff,Nat.reduceAdd,reduceCtorEq,isC,Nat.reduceLeDiff,enS_0,yC,yB,yA,h2i,h3i]
    refine fun _ _ => ⟨by omega, htk, ?_⟩
    refine ret_data ?_
    simp -implicitDefEqProofs only [rX,↓rY,↓reduceIte,Nat.reduceEqDiff,Nat.reduceAdd,resP,tupV,wfV,wfL,yB,yA]
    simp [Gv, tupV, gvV, gvL, wk, wkL, wkR, wfV, wfL]
end Go.Fx.O
namespace Go.Fx.O
open Go Go.Fx Go.Proofs Go.Fx.R
set_option maxRecDepth 20000
end Go.Fx.O
namespace Go.Fx.O
open Go Go.Fx Go.Proofs Go.Fx.R
set_option maxRecDepth 20000
theorem later_le {out : List Gift} {k : Nat} {to : Int} : later out k to ≤ out.length := by
 unfold later
 refine yU (vO _ _) ?_
 rw [List.length_drop]; omega
theorem g_len {g : Gift} : g.enc.length = 3 := rfl
theorem g_0 {g : Gift} : g.enc[0]? = some (.i g.to) := rfl
theorem g_1 {g : Gift} : g.enc[1]? = some (.i g.serial) := rfl
theorem g_2 {g : Gift} : g.enc[2]? = some (spans g.uses) := rfl
theorem g_C {g : Gift} : g.enc.all isC = true := rfl
theorem g_D {g : Gift} : g.enc.all isD = true := rfl
theorem g_t {g : Gift} : yF 3 g.enc = g.enc := rfl
end Go.Fx.O
namespace Go.Fx.O
open Go Go.Fx Go.Proofs Go.Fx.R
set_option maxRecDepth 20000
theorem later_take {out : List Gift} {k n : Nat} {to : Int} (hk : k ≤ n) (h : n < out.length) : later (out.take (n + 1)) k to = later (out.take n) k to + if out[n].to = to then 1 else 0 := by
 unfold later
 rw [yJ, yK h, List.drop_append_of_le_length (by rw [yT]; omega), vJ, vC]
 congr 1
 by_cases e : out[n].to = to
 ·simp [e]
 ·simp [e]
theorem ok37 (out : List Gift) (k : Nat) (to : Int) (hk : k ≤ out.length) (hl : out.length ≤ 1000000) : Ok 37 [gifts out, .i k, .i to] (Is (.i (later out k to))) := by
 refine ok_of lw37 (by simp) ?_
 unfold c37
 simp -implicitDefEqProofs only [rX,ofConst,↓reduceIte,Nat.reduceEqDiff,Nat.reduceAdd,reduceCtorEq,cxN,args0]
 refine loopP_intro (fun n : Nat => ⟨[(8, .i n), (7, .i (later (out.take n) k to)), (2, .i to), (0, gifts out)], [], 0⟩) (fun n => k ≤ n ∧ n ≤ out.length) (fun n => out.length - n) k ⟨vG _, hk⟩ ?_ ?_
 ·have h0 : later (out.take k) k to = 0 := by unfold later; rw [List.drop_of_length_le (by rw [yT]; omega)]; rfl
  simp -implicitDefEqProofs only [rX,↓reduceIte,Nat.reduceEqDiff,reduceCtorEq,leE,leH,keepP,wfE,wfB,wfV,h0,yE]
 rintro n ⟨hkn, hn⟩
 have hlt : later (out.take n) k to ≤ (out.take n).length := later_le
 rw [yT] at hlt
 unfold c37l0
 rcases yG n out.length with hn' | hn'
 ·have hd : decide ((n : Int) < (out.length : Int)) = true := decide_eq_true (by omega)
  have hst := later_take (to := to) hkn hn'
  cases he : out[n].to == to with
  | true =>
   have he' : out[n].to = to := by simpa using he
   rw [if_pos he'] at hst
   simp -implicitDefEqProofs only [rX,↓rY,ofConst,↓reduceIte,Nat.reduceEqDiff,reduceCtorEq,leE,leH,keepP,wfE,wfB,wfV,yA,hd,g_0,he]
   refine fun _ => ⟨⟨by omega, by omega⟩, hn', by simp only [lo, hi]; omega, by simp only [lo, hi]; omega, n + 1, ⟨⟨by omega, by omega⟩, by omega⟩, by simp, by rw [hst]; simp⟩
  | false =>
   have he' : ¬ out[n].to = to := by simpa using he
   rw [if_neg he'] at hst
   simp -implicitDefEqProofs only [rX,↓rY,ofConst,↓reduceIte,Nat.reduceEqDiff,reduceCtorEq,leE,leH,keepP,wfE,wfB,wfV,yA,hd,g_0,he]
   refine fun _ => ⟨⟨by omega, by omega⟩, hn', by simp only [lo, hi]; omega, n + 1, ⟨⟨by omega, by omega⟩, by omega⟩, by simp, by rw [hst]; simp⟩
 ·have hd : decide ((n : Int) < (out.length : Int)) = false := decide_eq_false (by omega)
  rw [yD hn']
  simp -implicitDefEqProofs only [rX,↓rY,↓reduceIte,Nat.reduceEqDiff,reduceCtorEq,resP,tupV,wfV,hd]
  exact fun _ => trivial
theorem mark0 {p : Purse} {to : Int} (h : MkOk p.sent p.me) : (markOf p.sent to == 0) = !isM p.sent to := by
 cases hi : isM p.sent to with
 | false => rw [markOf_no hi]; rfl
 | true =>
  obtain ⟨q1, q2, q3⟩ := posM_at h.mks hi
  have := h.at q1
  rw [q3]
  simp
  omega
end Go.Fx.O
namespace Go.Fx.O
open Go Go.Fx Go.Proofs Go.Fx.R
set_option maxRecDepth 20000
abbrev pat8 (p : Purse) (k : Nat) : St := ⟨[(7, .i k), (1, .ptr 0 0 0)], [.var p.enc], 0⟩
theorem body8 (p : Purse) (hfront : frontB p = true) (hmk : MkOk p.sent p.me) (hol : p.out.length ≤ 64) (k : Nat) (hg : k ≤ p.out.length ∧ ∀ j (h : j < p.out.length), j < k → goodB p j h = true) :
  aw (cxN Tryz.prog []) c8l0 (fun s' => ∃ g', ((g' ≤ p.out.length ∧ ∀ j (h : j < p.out.length), j < g' → goodB p j h = true) ∧ p.out.length - g' < p.out.length - k) ∧ leS [] s' (pat8 p g'))
   (fun j s' => if j = 0 then aw (cxN Tryz.prog []) ((LCode.reg 0 [⟨some 2, .mov (.const (.int .i64 0)), none⟩]).seq .ret) (retP [] 0 [.tmp 2] (Is (.i (chkE p)))) (fun _ _ => False) (retP [] 0 [.tmp 2] (Is (.i (chkE p)))) s' else False)
   (retP [] 0 [.tmp 2] (Is (.i (chkE p)))) (pat8 p k) := by
 obtain ⟨hg, hgood⟩ := hg
 have hsl := hmk.len
 unfold c8l0
 rcases yG k p.out.length with hk | hk
 ·have hd : decide ((k : Int) < (p.out.length : Int)) = true := decide_eq_true (by omega)
  have hkk : (0 : Int) ≤ (k : Int) ∧ (k : Int) < p.out.length := by omega
  have hbad : goodB p k hk = false → (1 : Int) = chkE p := fun h => (chk_bad hk h).symm
  simp -implicitDefEqProofs only [rX,↓rY,ofConst,cells?,splice,↓reduceIte,Nat.reduceEqDiff,Nat.reduceAdd,freshP,cxN,yC,yA,hd,g_len,g_0,g_C,g_t]
  refine fun hm => ⟨hkk, hk, ?_⟩
  refine call_is (ok36 p.sent p.out[k].to) ⟨⟨trivial, trivial, trivial⟩, ⟨rfl, rfl⟩, rfl, trivial⟩ rfl trivial ?_
  simp -implicitDefEqProofs only [rX,↓rY,↓reduceIte,Nat.reduceEqDiff,Nat.reduceAdd,g_2]
  refine call_is (ok32 p.out[k].uses) ⟨⟨trivial, trivial⟩, ⟨rfl, rfl⟩, trivial⟩ rfl trivial ?_
  have hm0 := mark0 (to := p.out[k].to) hmk
  cases h1 : isM p.sent p.out[k].to with
  | false =>
   rw [h1] at hm0
   simp -implicitDefEqProofs only [rX,↓rY,rdK,ofConst,↓reduceIte,Nat.reduceEqDiff,Nat.reduceAdd,resP,tupV,wfV,yA,g_0,g_1,g_2,hm0]
   exact hbad (by unfold goodB; rw [h1]; rfl)
  | true =>
   rw [h1] at hm0
   cases h3 : usB p.out[k].uses with
   | false =>
    simp -implicitDefEqProofs only [rX,↓rY,rdK,ofConst,↓reduceIte,Nat.reduceEqDiff,Nat.reduceAdd,resP,tupV,wfV,yA,hm0]
    exact hbad (by unfold goodB; rw [h1, h3]; simp)
   | true =>
    cases h2 : ((p.out[k].uses.length : Int) == 0) with
    | true =>
     have h2' : p.out[k].uses.length = 0 := by have := eq_of_beq h2; omega
     simp -implicitDefEqProofs only [rX,↓rY,rdK,ofConst,↓reduceIte,Nat.reduceEqDiff,Nat.reduceAdd,resP,tupV,wfV,yA,g_0,g_1,g_2,hm0,h2]
     exact fun _ => hbad (by unfold goodB; rw [h1, h2']; rfl)
    | false =>
     have h2' : decide (p.out[k].uses.length ≠ 0) = true := decide_eq_true (by have := ne_of_beq_false h2; omega)
     cases h5 : decide (p.out[k].serial < 1) with
     | true =>
      have h5' : decide (1 ≤ p.out[k].serial) = false := decide_eq_false (by have := of_decide_eq_true h5; omega)
      simp -implicitDefEqProofs only [rX,↓rY,rdK,ofConst,↓reduceIte,Nat.reduceEqDiff,Nat.reduceAdd,resP,tupV,wfV,yA,g_0,g_1,g_2,hm0,h2,h5]
      exact fun _ => hbad (by unfold goodB; rw [h1, h2', h3, h5']; simp)
     | false =>
      have h5' : decide (1 ≤ p.out[k].serial) = true := decide_eq_true (by have := of_decide_eq_false h5; omega)
      simp -implicitDefEqProofs only [rX,↓rY,rdK,ofConst,↓reduceIte,Nat.reduceEqDiff,Nat.reduceAdd,resP,tupV,wfV,yA,g_0,g_1,g_2,hm0,h2,h5]
      refine fun _ => ⟨by simp only [lo, hi]; omega, ?_⟩
      refine call_is (ok37 p.out (k + 1) p.out[k].to (by omega) (by omega)) ⟨⟨trivial, trivial, trivial, trivial⟩, ⟨rfl, rfl⟩, by simp [wk, lend], rfl, trivial⟩ rfl trivial ?_
      have hll : later p.out (k + 1) p.out[k].to ≤ p.out.length := later_le
      obtain ⟨q1, q2, q3⟩ := posM_at hmk.mks h1
      have hat := hmk.at q1
      cases h4 : (p.out[k].serial != (markOf p.sent p.out[k].to - later p.out (k + 1) p.out[k].to)) with
      | true =>
       simp -implicitDefEqProofs only [rX,↓rY,ofConst,↓reduceIte,Nat.reduceEqDiff,Nat.reduceAdd,resP,tupV,wfV,yA,h4]
       refine ⟨by rw [q3]; simp only [lo, hi]; omega, hbad ?_⟩
       have h4' : (p.out[k].serial == markOf p.sent p.out[k].to - later p.out (k + 1) p.out[k].to) = false := by simpa [bne] using h4
       unfold goodB; rw [h1, h2', h3, h4']; rfl
      | false =>
       have h4' : (p.out[k].serial == markOf p.sent p.out[k].to - later p.out (k + 1) p.out[k].to) = true := by simpa [bne] using h4
       simp -implicitDefEqProofs only [rX,↓rY,ofConst,↓reduceIte,Nat.reduceEqDiff,Nat.reduceAdd,leE,leH,leB,leV,leVs,keepP,liveP,wfE,wfB,wfV,wfL,yA,h4]
       refine ⟨by rw [q3]; simp only [lo, hi]; omega, by simp only [lo, hi]; omega, k + 1, ⟨⟨by omega, fun j hj hlt => ?_⟩, by omega⟩, by simp⟩
       by_cases e : j = k
       ·subst e
        unfold goodB; rw [h1, h2', h3, h4', h5']; rfl
       ·exact hgood j hj (by omega)
 ·have hd : decide ((k : Int) < (p.out.length : Int)) = false := decide_eq_false (by omega)
  simp -implicitDefEqProofs only [rX,↓rY,ofConst,↓reduceIte,Nat.reduceEqDiff,resP,tupV,wfV,cxN,yA,hd]
  exact fun _ => (chk_ok hfront fun j h => hgood j h (by omega)).symm
theorem ok8 (p : Purse) (hol : p.out.length ≤ 1000000) : Ok 8 [.agg p.enc] (Is (.i (chkE p))) := by
 refine ok_of lw8 (by simp) ?_
 unfold c8
 simp -implicitDefEqProofs only [rX,↓rY,ofConst,cells?,↓reduceIte,Nat.reduceEqDiff,freshP,cxN,yA,args0]
 refine call_is (ok32 p.left) ⟨⟨trivial, trivial⟩, ⟨rfl, rfl⟩, trivial⟩ rfl trivial ?_
 simp -implicitDefEqProofs only [rX,↓rY,↓reduceIte,Nat.reduceEqDiff]
 refine call_is (ok32 p.spent) ⟨⟨trivial, trivial⟩, ⟨rfl, rfl⟩, trivial⟩ rfl trivial ?_
 simp -implicitDefEqProofs only [rX,↓rY,↓reduceIte,Nat.reduceEqDiff]
 refine call_is (ok33 p.me) ⟨⟨trivial, trivial⟩, rfl, trivial⟩ rfl trivial ?_
 cases h1 : partyB p.me with
 | false =>
  simp -implicitDefEqProofs only [rX,↓rY,ofConst,↓reduceIte,Nat.reduceEqDiff,resP,tupV,wfV,yA]
  exact (chk_front (by unfold frontB; rw [h1]; simp)).symm
 | true =>
  cases h2 : usB p.left with
  | false =>
   simp -implicitDefEqProofs only [rX,↓rY,ofConst,↓reduceIte,Nat.reduceEqDiff,resP,tupV,wfV,yA]
   exact (chk_front (by unfold frontB; rw [h2]; simp)).symm
  | true =>
   cases h3 : usB p.spent with
   | false =>
    simp -implicitDefEqProofs only [rX,↓rY,ofConst,↓reduceIte,Nat.reduceEqDiff,resP,tupV,wfV,yA]
    exact (chk_front (by unfold frontB; rw [h3]; simp)).symm
   | true =>
    simp -implicitDefEqProofs only [rX,↓rY,↓reduceIte,Nat.reduceEqDiff]
    refine call_is (ok34 p.left p.spent (usB_iff.1 h2).v) ⟨⟨trivial, trivial, trivial⟩, ⟨rfl, rfl⟩, ⟨rfl, rfl⟩, trivial⟩ rfl trivial ?_
    cases h4 : decide ((meetS p.left p.spent).length = 0) with
    | false =>
     simp -implicitDefEqProofs only [rX,↓rY,ofConst,↓reduceIte,Nat.reduceEqDiff,resP,tupV,wfV,yA]
     exact (chk_front (by unfold frontB; rw [h4]; simp)).symm
    | true =>
     cases h7 : decide (p.out.length ≤ 64) with
     | false =>
      have h7' : decide ((64 : Int) < (p.out.length : Int)) = true := decide_eq_true (by have := of_decide_eq_false h7; omega)
      simp -implicitDefEqProofs only [rX,↓rY,ofConst,↓reduceIte,Nat.reduceEqDiff,resP,tupV,wfV,yA,h7']
      exact fun _ => (chk_front (by unfold frontB; rw [h7]; simp)).symm
     | true =>
      have h7' : decide ((64 : Int) < (p.out.length : Int)) = false := decide_eq_false (by have := of_decide_eq_true h7; omega)
      simp -implicitDefEqProofs only [rX,↓rY,ofConst,↓reduceIte,Nat.reduceEqDiff,resP,tupV,wfV,yA,h7']
      intro hm
      refine call_is (ok35 p.sent p.me) ⟨⟨trivial, trivial, trivial⟩, ⟨rfl, rfl⟩, rfl, trivial⟩ rfl trivial ?_
      simp -implicitDefEqProofs only [rX,↓rY,↓reduceIte,Nat.reduceEqDiff]
      refine call_is (ok35 p.heard p.me) ⟨⟨trivial, trivial, trivial⟩, ⟨rfl, rfl⟩, rfl, trivial⟩ rfl trivial ?_
      cases h5 : mkB p.sent p.me with
      | false =>
       simp -implicitDefEqProofs only [rX,↓rY,ofConst,↓reduceIte,Nat.reduceEqDiff,resP,tupV,wfV,yA]
       exact (chk_front (by unfold frontB; rw [h5]; simp)).symm
      | true =>
       cases h6 : mkB p.heard p.me with
       | false =>
        simp -implicitDefEqProofs only [rX,↓rY,ofConst,↓reduceIte,Nat.reduceEqDiff,resP,tupV,wfV,yA]
        exact (chk_front (by unfold frontB; rw [h6]; simp)).symm
       | true =>
        have hfront : frontB p = true := by unfold frontB; rw [h1, h2, h3, h4, h5, h6, h7]; rfl
        simp -implicitDefEqProofs only [rX,↓rY,ofConst,↓reduceIte,Nat.reduceEqDiff]
        refine loopP_intro (pat8 p) (fun k => k ≤ p.out.length ∧ ∀ j (h : j < p.out.length), j < k → goodB p j h = true) (fun k => p.out.length - k) 0 ⟨Nat.zero_le _, fun j h h2 => absurd h2 (vK _)⟩ ?_ (fun k hk => body8 p hfront (mkB_iff.1 h5) (of_decide_eq_true h7) k hk)
        simp -implicitDefEqProofs only [rX,↓reduceIte,Nat.reduceEqDiff,leE,leH,leB,leV,leVs,keepP,liveP,wfE,wfB,wfV,wfL,yE]
def frzQ (fx : List Nat) (v : V) (r : List Nat) (s : St) (K : St → Prop) : Prop :=
 match v with
 | .sl k _ _ => frz1 fx k (blk s.h k) s fun s' => frzP fx r s' K
 | _ => frzP fx r s K
theorem frzP_n {fx : List Nat} {s : St} {K : St → Prop} : frzP fx [] s K = K s := rfl
theorem frzP_c {fx : List Nat} {x : Nat} {r : List Nat} {e : Env} {h : List Blk} {b : Nat} {K : St → Prop} : frzP fx (x :: r) ⟨e, h, b⟩ K = frzQ fx (get e x) r ⟨e, h, b⟩ K := rfl
@[congr] theorem c_frzQ {fx : List Nat} {v v' : V} {r : List Nat} {s : St} {K : St → Prop} (q : v = v') : frzQ fx v r s K = frzQ fx v' r s K := by rw [q]
@[congr] theorem c_frz1 {fx : List Nat} {k : Nat} {B B' : Blk} {s : St} {K : St → Prop} (q : B = B') : frz1 fx k B s K = frz1 fx k B' s K := by rw [q]
@[congr] theorem c_frzP {fx xs : List Nat} {s s' : St} {K : St → Prop} (q : s = s') : frzP fx xs s K = frzP fx xs s' K := by rw [q]
theorem op_litsf {cx : Cx} {e : Env} {h : List Blk} {b : Nat} {K : V → St → Prop} {xs : List Nat} {j sz n : Nat} {z : List Value} {ps : List (Nat × Operand)} : aOp cx (.litsf xs j sz n z ps) ⟨e, h, b⟩ K =
  frzP (cx.fx ++ cx.bn) xs ⟨e, h, b⟩ fun s => litsP s.e sz (List.replicate n (z.map .v)) ps fun els => freshP s.h (s.b + j) ∧ K (.sl (s.b + j) 0 n) { s with h := s.h.set (s.b + j) (.arr sz els) } := rfl
theorem frzQ_r {fx : List Nat} {k : Nat} {l : List (List V)} {r : List Nat} {s : St} {K : St → Prop} : frzQ fx (.ro k l) r s K = frzP fx r s K := rfl
theorem frzQ_a {fx : List Nat} {l : List V} {r : List Nat} {s : St} {K : St → Prop} : frzQ fx (.agg l) r s K = frzP fx r s K := rfl
end Go.Fx.O
namespace Go.Fx.O
open Go Go.Fx Go.Proofs Go.Fx.R
set_option maxRecDepth 20000
theorem raw44 (l : List Gift) (hl : l.length ≤ 1000000) : Ok 44 [gifts l] (fun r h => IsA (.sl 0 0 l.length) [.arr 3 (l.map Gift.enc)] r h ∨ (l = [] ∧ IsA .nil [] r h)) := by
 refine ok_of lw44 (by simp) ?_
 unfold c44
 simp -implicitDefEqProofs only [rX,↓rY,ofConst,↓reduceIte,Nat.reduceEqDiff,reduceCtorEq,freshP,litsP,killE,killB,kill,St.kill,cxN,args0]
 have hA : retP [] 0 [LRes.tmp 2] (fun r h => IsA (.sl 0 0 l.length) [.arr 3 (l.map Gift.enc)] r h ∨ (l = [] ∧ IsA .nil [] r h)) ⟨[(2, V.sl 0 0 l.length), (7, V.sl 0 0 l.length), (6, gifts l), (5, V.any), (4, V.b false), (3, gifts l), (2, V.v (Value.slice none 0 0)), (0, gifts l)], [Blk.arr 3 (yO Gift.enc l), Blk.dead], 0⟩ := by
  rw [retP_eq]
  simp -implicitDefEqProofs only [rX,↓reduceIte,resP,tupV,keepP,liveP,wfV]
  exact ⟨[.arr 3 (l.map Gift.enc)], ⟨by simp [leH, leB], by simp [wfV, wfL, liveP], by simp [wfB]⟩, .inl ⟨rfl, rfl⟩⟩
 refine ⟨fun _ => ⟨.inr trivial, by omega, hA⟩, fun h => ⟨?_, .inr trivial, by omega, hA⟩⟩
 have h0 : l = [] := by simpa using h
 rw [retP_eq]
 simp -implicitDefEqProofs only [rX,↓reduceIte,resP,tupV,keepP,wfV]
 exact ⟨[], ⟨by simp [leH], by simp, by simp [wfB]⟩, .inr ⟨h0, rfl, rfl⟩⟩
theorem ok44A (l : List Gift) (hl : l.length ≤ 1000000) : Ok 44 [gifts l] (IsA (.sl 0 0 l.length) [.arr 3 (l.map Gift.enc)]) := by
 refine okN_ghost (raw44 l hl) ?_
 rintro r h (⟨rfl, rfl⟩ | ⟨rfl, rfl, rfl⟩)
 ·exact ⟨_, _, ⟨rfl, rfl⟩, _, .refl _, by simp -implicitDefEqProofs only [rX,↓reduceIte,leE,leH,leB,keepP,liveP,wfE,wfB,wfV]⟩
 ·refine ⟨_, _, ⟨rfl, rfl⟩, _, .virt 1 3 (by decide) (.nilE 0 0 rfl (.refl _)), ?_⟩
  simp -implicitDefEqProofs only [rX,↓reduceIte,leE,leH,leB,keepP,liveP,wfE,wfB,wfV,yL]
def giveP (p : Purse) (to n : Int) : Purse × Int :=
 if ((!partyB to || to == p.me) || decide (n < 1)) = true then (p, 1)
 else if tot p.left < n then (p, 4)
 else if 64 ≤ p.out.length ∨ 1099511627776 ≤ markOf p.sent to then (p, 2)
 else ({ p with left := minusS p.left (takeS p.left n), sent := setM p.sent to (markOf p.sent to + 1), out := p.out ++ [⟨to, markOf p.sent to + 1, takeS p.left n⟩] }, 0)
theorem mark_b {l : List Sp} {me who : Int} (h : MkOk l me) : 0 ≤ markOf l who ∧ markOf l who ≤ 1099511627776 := by
 cases hi : isM l who with
 | false => rw [markOf_no hi]; omega
 | true =>
  obtain ⟨h1, _, h3⟩ := posM_at h.mks hi
  rw [h3]
  have := (h.at h1).1
  omega
theorem ok11 (p : Purse) (to n : Int) (hl : Vd p.left) (hm : MkOk p.sent p.me) (ho : p.out.length ≤ 1000000) : Ok 11 [.agg p.enc, .i to, .i n] (Is (.tup [.agg (giveP p to n).1.enc, .i (giveP p to n).2])) := by
 refine okN_gv ?_
 refine ok_of lw11 (by simp) ?_
 unfold c11
 simp -implicitDefEqProofs only [rX,↓rY,ofConst,cells?,↓reduceIte,Nat.reduceEqDiff,Nat.reduceAdd,reduceCtorEq,freshP,cxN,zc22,yA,args0]
 have hp : ∀ (P : Purse) (e : Int), giveP p to n = (P, e) → (giveP p to n).1 = P ∧ (giveP p to n).2 = e := fun P e h => by rw [h]; exact ⟨rfl, rfl⟩
 have hll := hl.len
 have hmb := mark_b (who := to) hm
 have hml := hm.len
 have htt := hl.tot
 refine call_is (ok40 p.sent to hm.mks (by omega)) ⟨⟨trivial, trivial, trivial⟩, ⟨rfl, rfl⟩, rfl, trivial⟩ rfl trivial ?_
 simp -implicitDefEqProofs only [rX,↓rY,ofConst,↓reduceIte,Nat.reduceEqDiff,Nat.reduceAdd,reduceCtorEq,yA]
 refine ⟨by simp only [lo, hi]; omega, ?_⟩
 refine call_is (ok41 to) ⟨⟨trivial, trivial⟩, rfl, trivial⟩ rfl trivial ?_
 simp -implicitDefEqProofs only [rX,↓rY,ofConst,cells?,splice,↓reduceIte,Nat.reduceEqDiff,Nat.reduceAdd,reduceCtorEq,isC,yC,yB,yA]
 have hE1 : ∀ h : ((!partyB to || to == p.me) || decide (n < 1)) = true, (giveP p to n).1 = p ∧ (giveP p to n).2 = 1 := fun h => hp p 1 (by unfold giveP; rw [if_pos h])
 cases h1 : partyB to with
 | false =>
  obtain ⟨e1, e2⟩ := hE1 (by simp [h1])
  rw [e1, e2]
  simp -implicitDefEqProofs only [rX,↓rY]
  refine ret_data ?_
  simp -implicitDefEqProofs only [rX,↓rY,↓reduceIte,Nat.reduceEqDiff,Nat.reduceAdd,resP,tupV,wfV,wfL,yB,yA]
  simp [Gv, tupV, gvV, gvL, wk, wkL, wkR, wfV, wfL]
 | true =>
  cases h2 : to == p.me with
  | true =>
   obtain ⟨e1, e2⟩ := hE1 (by simp [h2])
   rw [e1, e2]
   simp -implicitDefEqProofs only [rX,↓rY]
   refine ret_data ?_
   simp -implicitDefEqProofs only [rX,↓rY,↓reduceIte,Nat.reduceEqDiff,Nat.reduceAdd,resP,tupV,wfV,wfL,yB,yA]
   simp [Gv, tupV, gvV, gvL, wk, wkL, wkR, wfV, wfL]
  | false =>
   cases h3 : decide (n < 1) with
   | true =>
    obtain ⟨e1, e2⟩ := hE1 (by simp [h3])
    rw [e1, e2]
    simp -implicitDefEqProofs only [rX,↓rY]
    refine ret_data ?_
    simp -implicitDefEqProofs only [rX,↓rY,↓reduceIte,Nat.reduceEqDiff,Nat.reduceAdd,resP,tupV,wfV,wfL,yB,yA]
    simp [Gv, tupV, gvV, gvL, wk, wkL, wkR, wfV, wfL]
   | false =>
    have h0 : ¬ ((!partyB to || to == p.me) || decide (n < 1)) = true := by simp [h1, h2, h3]
    have h3' : ¬ n < 1 := by simpa using h3
    simp -implicitDefEqProofs only [rX,↓rY]
    refine call_is (ok42 p.left hl) ⟨⟨trivial, trivial⟩, ⟨rfl, rfl⟩, trivial⟩ rfl trivial ?_
    cases h4 : decide (tot p.left < n) with
    | true =>
     have h4' : tot p.left < n := by simpa using h4
     obtain ⟨e1, e2⟩ := hp p 4 (by unfold giveP; rw [if_neg h0, if_pos h4'])
     rw [e1, e2]
     simp -implicitDefEqProofs only [rX,↓rY,ofConst,cells?,splice,↓reduceIte,Nat.reduceEqDiff,Nat.reduceAdd,isC,yC,yB,yA,h4]
     refine ret_data ?_
     simp -implicitDefEqProofs only [rX,↓rY,↓reduceIte,Nat.reduceEqDiff,Nat.reduceAdd,resP,tupV,wfV,wfL,yB,yA]
     simp [Gv, tupV, gvV, gvL, wk, wkL, wkR, wfV, wfL]
    | false =>
     have h4' : ¬ tot p.left < n := by simpa using h4
     cases h5 : decide (64 ≤ p.out.length) with
     | true =>
      have h5' : 64 ≤ p.out.length := by simpa using h5
      have h5i : decide ((64 : Int) ≤ (p.out.length : Int)) = true := decide_eq_true (by omega)
      obtain ⟨e1, e2⟩ := hp p 2 (by unfold giveP; rw [if_neg h0, if_neg h4', if_pos (.inl h5')])
      rw [e1, e2]
      simp -implicitDefEqProofs only [rX,↓rY,ofConst,cells?,splice,↓reduceIte,Nat.reduceEqDiff,Nat.reduceAdd,reduceCtorEq,isC,yC,yB,yA,h4,h5i]
      intro _
      refine ret_data ?_
      simp -implicitDefEqProofs only [rX,↓rY,↓reduceIte,Nat.reduceEqDiff,Nat.reduceAdd,resP,tupV,wfV,wfL,yB,yA]
      simp [Gv, tupV, gvV, gvL, wk, wkL, wkR, wfV, wfL]
     | false =>
      have h5' : ¬ 64 ≤ p.out.length := by simpa using h5
      have h5i : decide ((64 : Int) ≤ (p.out.length : Int)) = false := decide_eq_false (by omega)
      cases h6 : decide (1099511627776 < markOf p.sent to + 1) with
      | true =>
       have h6' : 1099511627776 ≤ markOf p.sent to := by simp at h6; omega
       obtain ⟨e1, e2⟩ := hp p 2 (by unfold giveP; rw [if_neg h0, if_neg h4', if_pos (.inr h6')])
       rw [e1, e2]
       simp -implicitDefEqProofs only [rX,↓rY,ofConst,cells?,splice,↓reduceIte,Nat.reduceEqDiff,Nat.reduceAdd,reduceCtorEq,isC,yC,yB,yA,h4,h5i,h6]
       intro _
       refine ret_data ?_
       simp -implicitDefEqProofs only [rX,↓rY,↓reduceIte,Nat.reduceEqDiff,Nat.reduceAdd,resP,tupV,wfV,wfL,yB,yA]
       simp [Gv, tupV, gvV, gvL, wk, wkL, wkR, wfV, wfL]
      | false =>
       have h6' : ¬ 1099511627776 ≤ markOf p.sent to := by simp at h6; omega
       obtain ⟨e1, e2⟩ := hp _ 0 (by unfold giveP; rw [if_neg h0, if_neg h4', if_neg (by omega)])
       rw [e1, e2]
       simp -implicitDefEqProofs only [rX,↓rY,ofConst,cells?,splice,↓reduceIte,Nat.reduceEqDiff,Nat.reduceAdd,reduceCtorEq,isC,yC,yB,yA,h4,h5i,h6]
       intro _
       refine call_is (ok38 p.left n hl (by omega)) ⟨⟨trivial, trivial, trivial⟩, ⟨rfl, rfl⟩, rfl, trivial⟩ rfl trivial ?_
       simp -implicitDefEqProofs only [rX,↓rY,cells?,splice,↓reduceIte,Nat.reduceEqDiff,Nat.reduceAdd,reduceCtorEq,isC,Nat.reduceLeDiff,yC,yB,yA]
       refine call_is (ok43 p.sent to (markOf p.sent to + 1) hm.mks (by omega)) ⟨⟨trivial, trivial, trivial, trivial⟩, ⟨rfl, rfl⟩, rfl, rfl, trivial⟩ rfl trivial ?_
       simp -implicitDefEqProofs only [rX,↓rY,cells?,splice,↓reduceIte,Nat.reduceEqDiff,Nat.reduceAdd,isC,Nat.reduceLeDiff,yC,yB,yA]
       refine call_isA [gifts p.out] (.sl 0 0 p.out.length) (.sl 4 0 p.out.length) [.arr 3 (p.out.map Gift.enc)] [.arr 3 (p.out.map Gift.enc)] (ok44A p.out ho) ⟨⟨trivial, trivial⟩, ⟨rfl, rfl⟩, trivial⟩ (by simp [ren]) (by simp [renB]) trivial ?_
       simp -implicitDefEqProofs only [rX,↓rY,ofConst,cells?,splice,↓reduceIte,Nat.reduceEqDiff,Nat.reduceAdd,reduceCtorEq,freshP,buildP,litsP,killE,killB,kill,kills,St.kill,isD,isC,Nat.reduceLT,Nat.reduceLeDiff,yC,yB,yA,↓op_litsf,↓frzP_n,↓frzP_c,↓frzQ_r]
       have hx : yF p.out.length (yO Gift.enc p.out) ++ [[V.v (Value.int IntKind.i64 to), V.v (Value.int IntKind.i64 (markOf p.sent to + 1)), spans (takeS p.left n)]] = (p.out ++ [(⟨to, markOf p.sent to + 1, takeS p.left n⟩ : Gift)]).map Gift.enc := by
        rw [yD (by simp), yP]; rfl
       have hn : p.out.length + 1 = (p.out ++ [(⟨to, markOf p.sent to + 1, takeS p.left n⟩ : Gift)]).length := by simp
       refine ⟨by omega, ?_⟩
       rw [hx, hn, retP_eq]
       generalize p.out ++ [(⟨to, markOf p.sent to + 1, takeS p.left n⟩ : Gift)] = Q
       have hQ : yF Q.length (Q.map Gift.enc) = Q.map Gift.enc := yD (by simp)
       simp -implicitDefEqProofs only [rX,↓rY,↓reduceIte,Nat.reduceEqDiff,Nat.reduceAdd,resP,tupV,keepP,liveP,wfV,wfL,yB,yA]
       refine ⟨[.dead, .dead, .dead, .dead, .arr 3 (Q.map Gift.enc)], ⟨by simp [leH, leB], by simp [tupV, wfV, wfL, liveP], by simp [wfB]⟩, ?_⟩
       simp [Gv, tupV, gvV, gvL, wk, wkL, wkR, wfV, wfL, blk, hQ]
end Go.Fx.O
namespace Go.Fx.O
open Go Go.Fx Go.Proofs Go.Fx.R
set_option maxRecDepth 20000
end Go.Fx.O
namespace Go.Fx.O
open Go Go.Fx Go.Proofs Go.Fx.R
set_option maxRecDepth 20000
structure Ltr where
 id : Dig
 kind : Int
 frm : Int
 to : Int
 serial : Int
 uses : List Sp
 deriving DecidableEq, Inhabited
def Ltr.enc (l : Ltr) : List V := [u8 l.id.a0, u8 l.id.a1, u8 l.id.a2, u8 l.id.a3, u8 l.id.a4, u8 l.id.a5, u8 l.id.a6, u8 l.id.a7, u8 l.id.a8, u8 l.id.a9, u8 l.id.a10, u8 l.id.a11, u8 l.id.a12, u8 l.id.a13, u8 l.id.a14, u8 l.id.a15, .i l.kind, .i l.frm, .i l.to, .i l.serial, spans l.uses]
abbrev ltrs (l : List Ltr) : V := .ro 21 (l.map Ltr.enc)
theorem l_len {l : Ltr} : l.enc.length = 21 := rfl
theorem l_C {l : Ltr} : l.enc.all isC = true := rfl
theorem l_t {l : Ltr} : yF 21 l.enc = l.enc := rfl
def letP (p : Purse) (g : Gift) : Ltr := ⟨p.id, 1, p.me, g.to, g.serial, g.uses⟩
def lettersP (p : Purse) : List Ltr := p.out.map (letP p)
theorem ok16 (p : Purse) (ho : p.out.length ≤ 1000000) (hu : ∀ g ∈ p.out, g.uses.length ≤ 4398046511104) : Ok 16 [.agg p.enc] (Is (ltrs (lettersP p))) := by
 refine okN_gv ?_
 refine ok_of lw16 (by simp) ?_
 unfold c16
 simp -implicitDefEqProofs only [rX,↓rY,ofConst,cells?,↓reduceIte,Nat.reduceEqDiff,freshP,cxN,yA,args0]
 intro hm
 refine loopP_ghost (.virt 1 21 (by decide) (.nilE 3 1 rfl (.refl _))) (fun k : Nat => ⟨[(9, .i k), (8, .i p.out.length), (7, gifts p.out), (3, .sl 1 0 k), (1, .ptr 0 0 0)], [.var p.enc, .arr 21 ((p.out.take k).map fun g => (letP p g).enc)], 1⟩) (fun k => k ≤ p.out.length) (fun k => p.out.length - k) 0 (by omega) ?_ ?_
 ·simp -implicitDefEqProofs only [rX,↓reduceIte,Nat.reduceEqDiff,leE,leH,leB,leV,leVs,keepP,liveP,wfE,wfB,wfV,wfL,yE,yL]
 rintro k hk
 unfold c16l0
 rcases yG k p.out.length with hk' | hk'
 ·have hd : decide ((k : Int) < (p.out.length : Int)) = true := decide_eq_true (by omega)
  have hkk : (0 : Int) ≤ k ∧ (k : Int) < p.out.length := ⟨by omega, by omega⟩
  simp -implicitDefEqProofs only [rX,↓rY,rdK,ofConst,cells?,splice,↓reduceIte,Nat.reduceEqDiff,Nat.reduceAdd,freshP,Nat.reduceLeDiff,yC,yB,yA,hd,g_len,g_0,g_1,g_2,g_C,g_t]
  refine ⟨hkk, hk', ?_⟩
  refine call_is (ok50 p.out[k].uses (hu _ (yH hk'))) ⟨⟨trivial, trivial⟩, ⟨rfl, rfl⟩, trivial⟩ rfl trivial ?_
  simp -implicitDefEqProofs only [rX,↓rY,ofConst,cells?,splice,↓reduceIte,Nat.reduceEqDiff,Nat.reduceAdd,reduceCtorEq,freshP,buildP,litsP,leE,leH,leB,leV,leVs,keepP,liveP,wfE,wfB,wfV,wfL,killE,killB,kill,kills,St.kill,isD,Nat.reduceLT,Nat.reduceLeDiff,yC,yB,yA,↓op_litsf,↓frzP_n,↓frzP_c,↓frzQ_r]
  have hkl : (yF k p.out).length = k := by rw [yT]; omega
  have hx : yF k (yO (fun g => (letP p g).enc) (yF k p.out)) = yO (fun g => (letP p g).enc) (yF k p.out) := yD (by simp; omega)
  refine ⟨⟨by omega, by omega⟩, by simp only [lo, hi]; omega, k + 1, ⟨by omega, by omega⟩, ⟨by simp, rfl⟩, ?_⟩
  rw [hx, yJ, yK hk', yP]
  rfl
 ·have hd : decide ((k : Int) < (p.out.length : Int)) = false := decide_eq_false (by omega)
  rw [yD hk']
  simp -implicitDefEqProofs only [rX,↓rY,↓reduceIte,Nat.reduceEqDiff,Nat.reduceAdd,yA,hd]
  have he : (p.out.map fun g => (letP p g).enc) = (lettersP p).map Ltr.enc := by unfold lettersP; rw [List.map_map]; rfl
  rw [he]
  exact ret_sl rfl rfl (by simp [lettersP]; omega)
end Go.Fx.O
namespace Go.Fx
open Go.RowKit
def dpC (x y : V) : Prop := y = x ∨ (x = .nil ∧ ∃ s, y = .ro s [])
def dpCs : List V → List V → Prop
 | [], [] => True
 | x :: xs, y :: ys => dpC x y ∧ dpCs xs ys
 | _, _ => False
def dpEs : List (List V) → List (List V) → Prop
 | [], [] => True
 | x :: xs, y :: ys => dpCs x y ∧ dpEs xs ys
 | _, _ => False
def dpV (x y : V) : Prop := y = x ∨ ∃ s a b, x = .ro s a ∧ y = .ro s b ∧ dpEs a b
def dpL : List V → List V → Prop
 | [], [] => True
 | x :: xs, y :: ys => dpV x y ∧ dpL xs ys
 | _, _ => False
theorem dpCs_snoc {s : Nat} : ∀ {xs : List V}, dpCs (xs ++ [.nil]) (xs ++ [.ro s []])
 | [] => ⟨.inr ⟨rfl, s, rfl⟩, trivial⟩
 | _ :: _ => ⟨.inl rfl, dpCs_snoc⟩
theorem dpL_snoc {x y : V} (h : dpV x y) : ∀ {xs : List V}, dpL (xs ++ [x]) (xs ++ [y])
 | [] => ⟨h, trivial⟩
 | _ :: _ => ⟨.inl rfl, dpL_snoc h⟩
theorem dpCs_len : ∀ {xs ys : List V}, dpCs xs ys → ys.length = xs.length
 | [], [], _ => rfl
 | _ :: _, _ :: _, h => by simp [dpCs_len h.2]
 | [], _ :: _, h => h.elim
 | _ :: _, [], h => h.elim
theorem RepCs_dp {S : Nat → Prop} {w : World} {b : Nat} : ∀ {xs ys : List V} {off : Nat}, dpCs xs ys → RepCs S w b off xs → RepCs S w b off ys
 | [], [], _, _, _ => trivial
 | x :: xs, y :: ys, off, ⟨h1, h2⟩, ⟨⟨val, h3, h4⟩, h5⟩ => by
  refine ⟨⟨val, h3, ?_⟩, RepCs_dp h2 h5⟩
  rcases h1 with rfl | ⟨rfl, s, rfl⟩
  ·exact h4
  ·obtain ⟨rfl, _⟩ := h4
   exact ⟨none, 0, 0, rfl, rfl, vG _, Nat.zero_le _, .inl rfl⟩
 | [], _ :: _, _, h, _ => h.elim
 | _ :: _, [], _, h, _ => h.elim
theorem RepEls_dp {S : Nat → Prop} {w : World} {sz b : Nat} : ∀ {a c : List (List V)} {off : Nat}, dpEs a c → RepEls S w sz b off a → RepEls S w sz b off c
 | [], [], _, _, _ => trivial
 | x :: xs, y :: ys, off, ⟨h1, h2⟩, ⟨⟨h3, h4⟩, h5⟩ => ⟨⟨(dpCs_len h1).trans h3, RepCs_dp h1 h4⟩, RepEls_dp h2 h5⟩
 | [], _ :: _, _, h, _ => h.elim
 | _ :: _, [], _, h, _ => h.elim
theorem dpEs_len : ∀ {xs ys : List (List V)}, dpEs xs ys → ys.length = xs.length
 | [], [], _ => rfl
 | _ :: _, _ :: _, h => by simp [dpEs_len h.2]
 | [], _ :: _, h => h.elim
 | _ :: _, [], h => h.elim
theorem RepV_dp {ρ : Nat → Loc} {X : Nat → Prop} {w : World} {x y : V} {val : Value} (h : dpV x y) (hr : RepV ρ X w x val) : RepV ρ X w y val := by
 rcases h with rfl | ⟨s, a, b, rfl, rfl, h⟩
 ·exact hr
 ·obtain ⟨ad, len, cap, h1, h2, h3, h4, h5⟩ := hr
  refine ⟨ad, len, cap, h1, by rw [dpEs_len h]; exact h2, h3, h4, ?_⟩
  rcases h5 with rfl | ⟨bb, off, h6, h7, h8⟩
  ·exact .inl (vH.1 (dpEs_len h))
  ·exact .inr ⟨bb, off, h6, h7, RepEls_dp h h8⟩
theorem RepL_dp {ρ : Nat → Loc} {X : Nat → Prop} {w : World} : ∀ {xs ys : List V} {vals : List Value}, dpL xs ys → RepL ρ X w xs vals → RepL ρ X w ys vals
 | [], [], _, _, h => h
 | x :: xs, y :: ys, v :: vs, ⟨h1, h2⟩, ⟨h3, h4⟩ => ⟨RepV_dp h1 h3, RepL_dp h2 h4⟩
 | [], _ :: _, _, h, _ => h.elim
 | _ :: _, [], _, h, _ => h.elim
 | _ :: _, _ :: _, [], _, h => h.elim
theorem okN_dp {P : Program} {f : FuncId} {zas : List V} {x y : V} (h : OkN P f zas [] [] (Is x)) (hd : dpV x y ∨ (∃ xs ys, x = .agg xs ∧ y = .agg ys ∧ dpL xs ys) ∨ ∃ xs ys, x = .tup xs ∧ y = .tup ys ∧ dpL xs ys) : OkN P f zas [] [] (Is y) := by
 refine ⟨h.1, ?_⟩
 intro ρ X w vals h1 h2
 refine (h.2 ρ X w vals h1 h2).mono ?_
 rintro e w' ⟨val, r, h', ρ', q1, ⟨⟨rfl, rfl⟩, q2⟩, q3, q4, q5, q6⟩
 refine ⟨val, y, [], ρ', q1, ⟨⟨rfl, rfl⟩, q2⟩, q3, q4, ?_, q6⟩
 rcases hd with hd | ⟨xs, ys, rfl, rfl, hd⟩ | ⟨xs, ys, rfl, rfl, hd⟩
 ·exact RepV_dp hd q5
 ·obtain ⟨arr, a1, a2⟩ := q5
  exact ⟨arr, a1, RepL_dp hd a2⟩
 ·obtain ⟨arr, a1, a2⟩ := q5
  exact ⟨arr, a1, RepL_dp hd a2⟩
end Go.Fx
namespace Go.Fx.O
open Go Go.Fx Go.Proofs Go.Fx.R
set_option maxRecDepth 20000
theorem ok69 (l : List Sp) : Ok 69 [spans l] (Is (.b (decide (0 < l.length) && usB l))) := by
 refine ok_of lw69 (by simp) ?_
 unfold c69
 simp -implicitDefEqProofs only [rX,↓rY,ofConst,↓reduceIte,Nat.reduceEqDiff,reduceCtorEq,resP,tupV,wfV,cxN,args0]
 cases h : decide ((0 : Int) < (l.length : Int)) with
 | true =>
  have h2 : decide (0 < l.length) = true := by simp at h; simp; omega
  simp -implicitDefEqProofs only [↓rY]
  intro _
  refine call_is (ok59 l) ⟨⟨trivial, trivial⟩, ⟨rfl, rfl⟩, trivial⟩ rfl trivial ?_
  simp -implicitDefEqProofs only [rX,↓rY,↓reduceIte,Nat.reduceEqDiff,resP,tupV,wfV]
  rw [h2]; rfl
 | false =>
  have h2 : decide (0 < l.length) = false := by simp at h; simp; omega
  simp -implicitDefEqProofs only [↓rY]
  intro _
  rw [h2]; rfl
theorem ok71 (l : List Sp) : Ok 71 [spans l] (Is (.b (decide (l.length = 0)))) := by
 refine ok_of lw71 (by simp) ?_
 unfold c71
 simp -implicitDefEqProofs only [rX,↓rY,ofConst,↓reduceIte,reduceCtorEq,resP,tupV,wfV,cxN,args0]
 intro _
 rw [vF]; simp
def ofV (kind : Int) : V := if kind = 1 then .tup [.agg [.clo 69 [], .clo 70 []], .b true] else if kind = 2 then .tup [.agg [.clo 71 [], .clo 72 []], .b true] else .tup [.agg [.v .nilFunc, .v .nilFunc], .b false]
theorem ok51 (kind : Int) : Ok 51 [.i kind] (Is (ofV kind)) := by
 refine ok_of lw51 (by simp) ?_
 unfold c51
 simp -implicitDefEqProofs only [rX,↓rY,ofConst,cells?,splice,↓reduceIte,Nat.reduceEqDiff,Nat.reduceAdd,reduceCtorEq,freshP,buildP,resP,tupV,wfV,wfL,isC,Nat.reduceLeDiff,cxN,yC,yB,yA,args0]
 by_cases h1 : kind = 1
 ·subst h1
  exact ⟨fun _ => rfl, fun h => by simp at h⟩
 ·have h1' : (kind == 1) = false := by simpa using h1
  by_cases h2 : kind = 2
  ·subst h2
   exact ⟨fun h => by simp at h, fun _ => ⟨fun _ => rfl, fun h => by simp at h⟩⟩
  ·have h2' : (kind == 2) = false := by simpa using h2
   rw [h1', h2']
   refine ⟨fun h => by simp at h, fun _ => ⟨fun h => by simp at h, fun _ => ?_⟩⟩
   unfold ofV
   rw [if_neg h1, if_neg h2]
def ackL (p : Purse) (to serial : Int) : Ltr := ⟨p.id, 2, p.me, to, serial, []⟩
def ackN (p : Purse) (to serial : Int) : List V := [u8 p.id.a0, u8 p.id.a1, u8 p.id.a2, u8 p.id.a3, u8 p.id.a4, u8 p.id.a5, u8 p.id.a6, u8 p.id.a7, u8 p.id.a8, u8 p.id.a9, u8 p.id.a10, u8 p.id.a11, u8 p.id.a12, u8 p.id.a13, u8 p.id.a14, u8 p.id.a15, .i 2, .i p.me, .i to, .i serial, .nil]
theorem ack_dp {p : Purse} {to serial : Int} : dpV (.ro 21 [ackN p to serial]) (ltrs [ackL p to serial]) := .inr ⟨21, _, _, rfl, rfl, dpCs_snoc (xs := (ackL p to serial).enc.take 20), trivial⟩
theorem ok54 (p : Purse) (to serial : Int) : Ok 54 [.agg p.enc, .i to, .i serial] (Is (.agg (p.enc ++ [ltrs [ackL p to serial]]))) := by
 refine okN_dp (x := .agg (p.enc ++ [.ro 21 [ackN p to serial]])) ?_ (.inr (.inl ⟨_, _, rfl, rfl, dpL_snoc ack_dp⟩))
 refine okN_gv ?_
 refine ok_of lw54 (by simp) ?_
 unfold c54
 simp -implicitDefEqProofs only [rX,↓rY,ofConst,cells?,splice,↓reduceIte,Nat.reduceEqDiff,Nat.reduceAdd,reduceCtorEq,freshP,buildP,litsP,isD,isC,Nat.reduceLT,Nat.reduceLeDiff,cxN,zc22s,yC,yB,yA,args0]
 rw [retP_eq]
 simp -implicitDefEqProofs only [rX,↓rY,↓reduceIte,Nat.reduceEqDiff,Nat.reduceAdd,resP,tupV,keepP,liveP,wfV,wfL,yB,yA]
 refine ⟨[.dead, .dead, .arr 21 [ackN p to serial]], ⟨⟨trivial, trivial, rfl, trivial⟩, by simp [tupV, wfV, wfL, liveP], by simp [wfB]⟩, ?_⟩
 simp [Gv, tupV, gvV, gvL, wk, wkL, wkR, wfV, wfL, blk]
end Go.Fx.O
namespace Go.Fx.O
open Go Go.Fx Go.Proofs Go.Fx.R
set_option maxRecDepth 20000
def keepB (L : Ltr) (g : Gift) : Bool := (g.to != L.frm) || decide (L.serial < g.serial)
theorem le_17 {L : Ltr} : L.enc[17]? = some (.i L.frm) := rfl
theorem le_19 {L : Ltr} : L.enc[19]? = some (.i L.serial) := rfl
theorem l_le {L : Ltr} : leVs L.enc L.enc := by simp [Ltr.enc, leVs, leV]
theorem l_wf {L : Ltr} {q : List Blk} : wfL q L.enc := by simp [Ltr.enc, wfL, wfV]
theorem l_kill {L : Ltr} {M : List Nat} : kills M L.enc = L.enc := rfl
theorem l_ren {L : Ltr} {f : Nat → Option Nat} : rens f L.enc = L.enc := rfl
theorem ok86 (L : Ltr) (g : Gift) : OkN Tryz.prog 86 [.agg g.enc, .ptr 0 0 0] [.var L.enc] [] (IsA (.b (keepB L g)) [.var L.enc]) := by
 refine okN_of pol [0] lw86 (by simp) ⟨trivial, trivial⟩ (by simp) ?_
 unfold c86
 simp -implicitDefEqProofs only [rX,↓rY,ofConst,cells?,↓reduceIte,Nat.reduceEqDiff,Nat.reduceAdd,reduceCtorEq,freshP,resP,tupV,leH,leB,keepP,liveP,wfB,wfV,cxN,yA,args0,retP_isA,g_0,g_1,le_17,le_19]
 unfold keepB
 cases h : g.to != L.frm with
 | true =>
  simp -implicitDefEqProofs only [↓rY]
  exact ⟨⟨l_le, l_wf⟩, rfl⟩
 | false =>
  simp -implicitDefEqProofs only [↓rY]
  exact ⟨⟨l_le, l_wf⟩, rfl⟩
theorem ok85 (L : Ltr) (l : List Gift) (hl : l.length ≤ 1000000) : OkN Tryz.prog 85 [gifts l, .clo 86 [.ptr 0 0 0]] [.var L.enc] [] (IsA (.sl 1 0 (l.filter (keepB L)).length) [.var L.enc, .arr 3 ((l.filter (keepB L)).map Gift.enc)]) := by
 refine okN_of pol [0] lw85 (by simp) ⟨trivial, trivial⟩ (by simp) ?_
 unfold c85
 simp -implicitDefEqProofs only [rX,↓rY,ofConst,↓reduceIte,reduceCtorEq,cxN,args0]
 intro hm
 refine loopP_ghost (.virt 1 3 (by decide) (.nilE 5 1 rfl (.refl _))) (fun k : Nat => ⟨[(10, .i k), (9, .i l.length), (8, gifts l), (5, .sl 1 0 ((l.take k).filter (keepB L)).length), (1, .clo 86 [.ptr 0 0 0])], [.var L.enc, .arr 3 (((l.take k).filter (keepB L)).map Gift.enc)], 0⟩) (fun k => k ≤ l.length) (fun k => l.length - k) 0 (by omega) ?_ ?_
 ·simp -implicitDefEqProofs only [rX,↓reduceIte,Nat.reduceEqDiff,reduceCtorEq,leE,leH,leB,keepP,liveP,wfE,wfB,wfV,wfL,yE,yL,vP]
  exact ⟨l_le, l_wf⟩
 rintro k hk
 unfold c85l0
 rcases yG k l.length with hk' | hk'
 ·have hd : decide ((k : Int) < (l.length : Int)) = true := decide_eq_true (by omega)
  have hkk : (0 : Int) ≤ k ∧ (k : Int) < l.length := ⟨by omega, by omega⟩
  simp -implicitDefEqProofs only [rX,↓rY,ofConst,cells?,splice,↓reduceIte,Nat.reduceEqDiff,Nat.reduceAdd,freshP,yC,yA,hd,g_len,g_C,g_t]
  refine ⟨hkk, hk', ?_⟩
  have htk : yF ((l.take k).filter (keepB L)).length (((l.take k).filter (keepB L)).map Gift.enc) = ((l.take k).filter (keepB L)).map Gift.enc := yD (by simp)
  have hfl : ((l.take k).filter (keepB L)).length ≤ k := yU (vO ..) (by rw [yT]; omega)
  refine call_isN [0] [.agg l[k].enc, .ptr 0 0 0] (.b (keepB L l[k])) (.b (keepB L l[k])) [.var L.enc] [.var L.enc] _ (ok86 L l[k]) ⟨by simp, by simp⟩ rfl ?_ (by simp) rfl rfl ?_ ?_
  ·simp [lendsOk, lendOk, lends, lend, wkL, wk, wkR, pos, Gift.enc]
  ·simp [setAll, keepP, liveP, renB]
  have hst : (l.take (k + 1)).filter (keepB L) = (l.take k).filter (keepB L) ++ (if keepB L l[k] then [l[k]] else []) := by
   rw [yJ, yK hk', vJ]
   simp only [Option.toList_some, vQ, vP]
  cases hb : keepB L l[k] with
  | true =>
   rw [hb] at hst
   simp -implicitDefEqProofs only [rX,↓rY,ofConst,cells?,↓reduceIte,Nat.reduceEqDiff,Nat.reduceAdd,reduceCtorEq,freshP,litsP,leE,leH,leB,keepP,liveP,wfE,wfB,wfV,wfL,killE,killB,kill,kills,St.kill,Nat.reduceLT,yB,yA,setAll,renB,l_ren,htk,g_len,g_D,g_t,↓op_litsf,↓frzP_n,↓frzP_c,↓frzQ_a]
   refine ⟨by omega, by simp only [lo, hi]; omega, k + 1, ⟨by omega, by omega⟩, ?_⟩
   rw [hst, l_kill]
   simp only [if_true, vC, vW, yP, vX, vY]
   exact ⟨⟨by simp, trivial⟩, ⟨l_le, trivial⟩, l_wf⟩
  | false =>
   rw [hb] at hst
   simp -implicitDefEqProofs only [rX,↓rY,ofConst,↓reduceIte,Nat.reduceEqDiff,Nat.reduceAdd,leE,leH,leB,keepP,liveP,wfE,wfB,wfV,wfL,yA,setAll,renB,l_ren]
   refine ⟨by simp only [lo, hi]; omega, k + 1, ⟨by omega, by omega⟩, ?_⟩
   rw [hst]
   simp only [vV, if_false, vT]
   exact ⟨⟨by simp, trivial⟩, ⟨l_le, trivial⟩, l_wf⟩
 ·have hd : decide ((k : Int) < (l.length : Int)) = false := decide_eq_false (by omega)
  rw [yD hk']
  simp -implicitDefEqProofs only [rX,↓rY,↓reduceIte,Nat.reduceEqDiff,Nat.reduceAdd,yA,hd]
  rw [retP_isA]
  simp -implicitDefEqProofs only [rX,↓reduceIte,Nat.reduceAdd,resP,tupV,leH,leB,keepP,liveP,wfB,wfV,Nat.reduceLeDiff,yA]
  exact ⟨l_le, l_wf⟩
def ackP (p : Purse) (L : Ltr) : Purse := if L.serial ≤ markOf p.sent L.frm then { p with out := p.out.filter (keepB L) } else p
theorem ok72 (p : Purse) (L : Ltr) (hm : Mks p.sent) (hl : p.sent.length ≤ 1000000) (ho : p.out.length ≤ 1000000) : Ok 72 [.agg p.enc, .agg L.enc] (Is (.tup [.agg (ackP p L).enc, .i 0])) := by
 refine okN_gv ?_
 refine ok_of lw72 (by simp) ?_
 unfold c72
 simp -implicitDefEqProofs only [rX,↓rY,rdK,ofConst,cells?,↓reduceIte,Nat.reduceEqDiff,Nat.reduceAdd,reduceCtorEq,freshP,cxN,zc22,yA,args0,le_17,le_19]
 refine call_is (ok40 p.sent L.frm hm hl) ⟨⟨trivial, trivial, trivial⟩, ⟨rfl, rfl⟩, rfl, trivial⟩ rfl trivial ?_
 cases h : decide (L.serial ≤ markOf p.sent L.frm) with
 | true =>
  have h' : L.serial ≤ markOf p.sent L.frm := by simpa using h
  have e : ackP p L = { p with out := p.out.filter (keepB L) } := if_pos h'
  rw [e]
  simp -implicitDefEqProofs only [rX,↓rY,↓reduceIte,Nat.reduceEqDiff,Nat.reduceAdd,yA,h]
  refine call_isN [1] [gifts p.out, .clo 86 [.ptr 0 0 0]] (.sl 1 0 (p.out.filter (keepB L)).length) (.sl 3 0 (p.out.filter (keepB L)).length) [.var L.enc] [.var L.enc, .arr 3 ((p.out.filter (keepB L)).map Gift.enc)] _ (ok85 L p.out ho) ⟨by simp, by simp⟩ rfl ?_ (by simp) rfl rfl ?_ ?_
  ·simp [lendsOk, lendOk, lends, lend, wkL, wk, wkR, pos]
  ·trivial
  simp -implicitDefEqProofs only [rX,↓rY,ofConst,cells?,splice,↓reduceIte,Nat.reduceEqDiff,Nat.reduceAdd,isC,Nat.reduceLeDiff,yC,yB,yA,setAll,renB,l_ren]
  generalize p.out.filter (keepB L) = Q
  have hQ : yF Q.length (Q.map Gift.enc) = Q.map Gift.enc := yD (by simp)
  rw [retP_eq]
  simp -implicitDefEqProofs only [rX,↓rY,↓reduceIte,Nat.reduceEqDiff,Nat.reduceAdd,resP,tupV,keepP,liveP,wfV,wfL,yB,yA]
  refine ⟨[.dead, .dead, .dead, .arr 3 (Q.map Gift.enc)], ⟨by simp [leH, leB], by simp [tupV, wfV, wfL, liveP], by simp [wfB]⟩, ?_⟩
  simp [Gv, tupV, gvV, gvL, wk, wkL, wkR, wfV, wfL, blk, hQ]
 | false =>
  have h' : ¬ L.serial ≤ markOf p.sent L.frm := by simpa using h
  have e : ackP p L = p := if_neg h'
  rw [e]
  simp -implicitDefEqProofs only [rX,↓rY,ofConst,cells?,splice,↓reduceIte,Nat.reduceEqDiff,Nat.reduceAdd,isC,yC,yB,yA,h]
  refine ret_data ?_
  simp -implicitDefEqProofs only [rX,↓rY,↓reduceIte,Nat.reduceEqDiff,Nat.reduceAdd,resP,tupV,wfV,wfL,yB,yA]
  simp [Gv, tupV, gvV, gvL, wk, wkL, wkR, wfV, wfL]
end Go.Fx.O
namespace Go.Fx.O
open Go Go.Fx Go.Proofs Go.Fx.R
set_option maxRecDepth 20000
theorem le_20 {L : Ltr} : L.enc[20]? = some (spans L.uses) := rfl
theorem le_18 {L : Ltr} : L.enc[18]? = some (.i L.to) := rfl
theorem le_16 {L : Ltr} : L.enc[16]? = some (.i L.kind) := rfl
def gOk (p : Purse) (L : Ltr) : Bool := (L.serial == markOf p.heard L.frm + 1) && decide ((meetS L.uses p.left).length = 0) && decide ((meetS L.uses p.spent).length = 0) && decide ((bothS p.left L.uses).length ≤ 1000)
def giftP (p : Purse) (L : Ltr) : Purse × Int :=
 if L.serial ≤ markOf p.heard L.frm then (p, markOf p.heard L.frm)
 else if gOk p L = true then ({ p with left := bothS p.left L.uses, heard := setM p.heard L.frm L.serial }, L.serial)
 else (p, 0)
theorem ok70 (p : Purse) (L : Ltr) (hl : Vd p.left) (hs : Vd p.spent) (hu : Vd L.uses) (hm : MkOk p.heard p.me) : Ok 70 [.agg p.enc, .agg L.enc] (Is (.tup [.agg (giftP p L).1.enc, .i (giftP p L).2])) := by
 refine okN_gv ?_
 refine ok_of lw70 (by simp) ?_
 unfold c70
 simp -implicitDefEqProofs only [rX,↓rY,ofConst,cells?,↓reduceIte,Nat.reduceEqDiff,Nat.reduceAdd,reduceCtorEq,freshP,cxN,zc22,yA,args0,le_17]
 have hp : ∀ (P : Purse) (e : Int), giftP p L = (P, e) → (giftP p L).1 = P ∧ (giftP p L).2 = e := fun P e h => by rw [h]; exact ⟨rfl, rfl⟩
 have hmb := mark_b (who := L.frm) hm
 have hml := hm.len
 have hbl := (hl.both hu.2).len
 refine call_is (ok40 p.heard L.frm hm.mks (by omega)) ⟨⟨trivial, trivial, trivial⟩, ⟨rfl, rfl⟩, rfl, trivial⟩ rfl trivial ?_
 cases h1 : decide (L.serial ≤ markOf p.heard L.frm) with
 | true =>
  have h1' : L.serial ≤ markOf p.heard L.frm := by simpa using h1
  obtain ⟨e1, e2⟩ := hp p (markOf p.heard L.frm) (by unfold giftP; rw [if_pos h1'])
  rw [e1, e2]
  simp -implicitDefEqProofs only [rX,↓rY,cells?,splice,↓reduceIte,Nat.reduceEqDiff,Nat.reduceAdd,isC,yC,yB,yA,h1,le_19]
  refine ret_data ?_
  simp -implicitDefEqProofs only [rX,↓rY,↓reduceIte,Nat.reduceEqDiff,Nat.reduceAdd,resP,tupV,wfV,wfL,yB,yA]
  simp [Gv, tupV, gvV, gvL, wk, wkL, wkR, wfV, wfL]
 | false =>
  have h1' : ¬ L.serial ≤ markOf p.heard L.frm := by simpa using h1
  have hno : gOk p L = false → (giftP p L).1 = p ∧ (giftP p L).2 = 0 := fun h => hp p 0 (by unfold giftP; rw [if_neg h1', h]; rfl)
  simp -implicitDefEqProofs only [rX,↓rY,ofConst,cells?,splice,↓reduceIte,Nat.reduceEqDiff,Nat.reduceAdd,isC,yC,yB,yA,h1,le_19,le_20]
  refine ⟨by simp only [lo, hi]; omega, ?_⟩
  cases h2 : L.serial == markOf p.heard L.frm + 1 with
  | false =>
   obtain ⟨e1, e2⟩ := hno (by unfold gOk; rw [h2]; rfl)
   rw [e1, e2]
   simp -implicitDefEqProofs only [↓rY]
   refine ret_data ?_
   simp -implicitDefEqProofs only [rX,↓rY,↓reduceIte,Nat.reduceEqDiff,Nat.reduceAdd,resP,tupV,wfV,wfL,yB,yA]
   simp [Gv, tupV, gvV, gvL, wk, wkL, wkR, wfV, wfL]
  | true =>
   simp -implicitDefEqProofs only [↓rY]
   refine call_is (ok57 L.uses p.left hu hl) ⟨⟨trivial, trivial, trivial⟩, ⟨rfl, rfl⟩, ⟨rfl, rfl⟩, trivial⟩ rfl trivial ?_
   cases h3 : decide ((meetS L.uses p.left).length = 0) with
   | false =>
    obtain ⟨e1, e2⟩ := hno (by unfold gOk; rw [h2, h3]; rfl)
    rw [e1, e2]
    simp -implicitDefEqProofs only [rX,↓rY,ofConst,cells?,splice,↓reduceIte,Nat.reduceEqDiff,Nat.reduceAdd,isC,yC,yB,yA]
    refine ret_data ?_
    simp -implicitDefEqProofs only [rX,↓rY,↓reduceIte,Nat.reduceEqDiff,Nat.reduceAdd,resP,tupV,wfV,wfL,yB,yA]
    simp [Gv, tupV, gvV, gvL, wk, wkL, wkR, wfV, wfL]
   | true =>
    simp -implicitDefEqProofs only [rX,↓rY,↓reduceIte,Nat.reduceEqDiff,le_20]
    refine call_is (ok57 L.uses p.spent hu hs) ⟨⟨trivial, trivial, trivial⟩, ⟨rfl, rfl⟩, ⟨rfl, rfl⟩, trivial⟩ rfl trivial ?_
    cases h4 : decide ((meetS L.uses p.spent).length = 0) with
    | false =>
     obtain ⟨e1, e2⟩ := hno (by unfold gOk; rw [h2, h3, h4]; rfl)
     rw [e1, e2]
     simp -implicitDefEqProofs only [rX,↓rY,ofConst,cells?,splice,↓reduceIte,Nat.reduceEqDiff,Nat.reduceAdd,isC,yC,yB,yA]
     refine ret_data ?_
     simp -implicitDefEqProofs only [rX,↓rY,↓reduceIte,Nat.reduceEqDiff,Nat.reduceAdd,resP,tupV,wfV,wfL,yB,yA]
     simp [Gv, tupV, gvV, gvL, wk, wkL, wkR, wfV, wfL]
    | true =>
     simp -implicitDefEqProofs only [rX,↓rY,↓reduceIte,Nat.reduceEqDiff,le_20]
     refine call_is (ok39 p.left L.uses hl hu.2) ⟨⟨trivial, trivial, trivial⟩, ⟨rfl, rfl⟩, ⟨rfl, rfl⟩, trivial⟩ rfl trivial ?_
     cases h5 : decide ((bothS p.left L.uses).length ≤ 1000) with
     | false =>
      have h5' : ¬ (bothS p.left L.uses).length ≤ 1000 := by simpa using h5
      have h5i : decide (((bothS p.left L.uses).length : Int) ≤ 1000) = false := decide_eq_false (by omega)
      obtain ⟨e1, e2⟩ := hno (by unfold gOk; rw [h2, h3, h4, h5]; rfl)
      rw [e1, e2]
      simp -implicitDefEqProofs only [rX,↓rY,ofConst,cells?,splice,↓reduceIte,Nat.reduceEqDiff,Nat.reduceAdd,isC,yC,yB,yA,h5i,le_20]
      intro _
      refine ret_data ?_
      simp -implicitDefEqProofs only [rX,↓rY,↓reduceIte,Nat.reduceEqDiff,Nat.reduceAdd,resP,tupV,wfV,wfL,yB,yA]
      simp [Gv, tupV, gvV, gvL, wk, wkL, wkR, wfV, wfL]
     | true =>
      have h5' : (bothS p.left L.uses).length ≤ 1000 := by simpa using h5
      have h5i : decide (((bothS p.left L.uses).length : Int) ≤ 1000) = true := decide_eq_true (by omega)
      have hyes : gOk p L = true := by unfold gOk; rw [h2, h3, h4, h5]; rfl
      obtain ⟨e1, e2⟩ := hp { p with left := bothS p.left L.uses, heard := setM p.heard L.frm L.serial } L.serial (by unfold giftP; rw [if_neg h1', if_pos hyes])
      rw [e1, e2]
      simp -implicitDefEqProofs only [rX,↓rY,ofConst,cells?,splice,↓reduceIte,Nat.reduceEqDiff,Nat.reduceAdd,isC,yC,yB,yA,h5i,le_20]
      intro _
      refine call_is (ok39 p.left L.uses hl hu.2) ⟨⟨trivial, trivial, trivial⟩, ⟨rfl, rfl⟩, ⟨rfl, rfl⟩, trivial⟩ rfl trivial ?_
      simp -implicitDefEqProofs only [rX,↓rY,cells?,splice,↓reduceIte,Nat.reduceEqDiff,Nat.reduceAdd,isC,Nat.reduceLeDiff,yC,yB,yA,le_17,le_19]
      refine call_is (ok43 p.heard L.frm L.serial hm.mks (by omega)) ⟨⟨trivial, trivial, trivial, trivial⟩, ⟨rfl, rfl⟩, rfl, rfl, trivial⟩ rfl trivial ?_
      simp -implicitDefEqProofs only [rX,↓rY,rdK,cells?,splice,↓reduceIte,Nat.reduceEqDiff,Nat.reduceAdd,reduceCtorEq,isC,Nat.reduceLeDiff,yC,yB,yA,le_19]
      refine ret_data ?_
      simp -implicitDefEqProofs only [rX,↓rY,↓reduceIte,Nat.reduceEqDiff,Nat.reduceAdd,resP,tupV,wfV,wfL,yB,yA]
      simp [Gv, tupV, gvV, gvL, wk, wkL, wkR, wfV, wfL]
end Go.Fx.O
namespace Go.Fx.O
open Go Go.Fx Go.Proofs Go.Fx.R
set_option maxRecDepth 20000
def outL (p : Purse) (L : Ltr) : Bool := ((((!(L.id == p.id) || (L.to != p.me)) || !partyB L.frm) || (L.frm == p.me)) || !countsB L.serial)
def rightL (L : Ltr) : Bool := if L.kind = 1 then decide (0 < L.uses.length) && usB L.uses else if L.kind = 2 then decide (L.uses.length = 0) else false
def hearA (p : Purse) (L : Ltr) : Purse × Int :=
 if (outL p L || !rightL L) = true then (p, 0) else if L.kind = 1 then giftP p L else (ackP p L, 0)
theorem giftP_id {p : Purse} {L : Ltr} : (giftP p L).1.id = p.id ∧ (giftP p L).1.me = p.me := by
 unfold giftP
 split
 ·exact ⟨rfl, rfl⟩
 ·split <;> exact ⟨rfl, rfl⟩
def ansN (p : Purse) (L : Ltr) (n : Int) : List (List V) := if n = 0 then [] else [ackN p L.frm n]
def ansL (p : Purse) (L : Ltr) (n : Int) : List Ltr := if n = 0 then [] else [ackL p L.frm n]
theorem ans_dp {p : Purse} {L : Ltr} {n : Int} : dpV (.ro 21 (ansN p L n)) (ltrs (ansL p L n)) := by
 unfold ansN ansL
 split
 ·exact .inl rfl
 ·exact ack_dp
theorem pl_lend {p : Purse} {L : Ltr} {h : List Blk} {f : Nat → Option Nat} : lendsOk h f [.agg p.enc, .agg L.enc] ∧ wkL [.agg p.enc, .agg L.enc] (lends h f [.agg p.enc, .agg L.enc]) := by
 simp [lendsOk, lendOk, lends, lend, wkL, wk, wkR, Ltr.enc]
theorem raw18 (p : Purse) (L : Ltr) (hl : Vd p.left) (hs : Vd p.spent) (hm : MkOk p.heard p.me) (hm2 : MkOk p.sent p.me) (ho : p.out.length ≤ 1000000) : Ok 18 [.agg p.enc, .agg L.enc] (Is (.tup [.agg (hearA p L).1.enc, .ro 21 (ansN p L (hearA p L).2)])) := by
 refine okN_gv ?_
 refine ok_of lw18 (by simp) ?_
 unfold c18
 simp -implicitDefEqProofs only [rX,↓rY,ofConst,cells?,↓reduceIte,Nat.reduceEqDiff,Nat.reduceAdd,reduceCtorEq,freshP,cxN,zc22,yA,args0,le_16]
 have hml := hm2.len
 have hno : (outL p L || !rightL L) = true → (hearA p L).1 = p ∧ ansN p L (hearA p L).2 = [] := fun h => by
  unfold hearA; rw [if_pos h]; exact ⟨rfl, rfl⟩
 refine call_is (ok51 L.kind) ⟨⟨trivial, trivial⟩, rfl, trivial⟩ (by unfold ofV; split; rfl; split <;> rfl) trivial ?_
 by_cases hk1 : L.kind = 1
 ·have hov : ofV L.kind = .tup [.agg [.clo 69 [], .clo 70 []], .b true] := if_pos hk1
  have hrt : rightL L = (decide (0 < L.uses.length) && usB L.uses) := if_pos hk1
  rw [hov]
  simp -implicitDefEqProofs only [rX,↓rY,ofConst,cells?,splice,↓reduceIte,Nat.reduceEqDiff,Nat.reduceAdd,freshP,isC,Nat.reduceLeDiff,yC,yB,yA,l_len,le_17,le_18]
  refine Eq.mpr (eq_dig (d := L.id) (e := p.id)) ?_
  cases h1 : L.id == p.id with
  | false =>
   obtain ⟨e1, e2⟩ := hno (by unfold outL; rw [h1]; rfl)
   rw [e1, e2]
   simp -implicitDefEqProofs only [rX,↓rY]
   refine ret_data ?_
   simp -implicitDefEqProofs only [rX,↓rY,↓reduceIte,Nat.reduceEqDiff,Nat.reduceAdd,resP,tupV,wfV,wfL,yB,yA]
   simp [Gv, tupV, gvV, gvL, wk, wkL, wkR, wfV, wfL]
  | true =>
   cases h2 : L.to != p.me with
   | true =>
    obtain ⟨e1, e2⟩ := hno (by unfold outL; rw [h1, h2]; rfl)
    rw [e1, e2]
    simp -implicitDefEqProofs only [rX,↓rY]
    refine ret_data ?_
    simp -implicitDefEqProofs only [rX,↓rY,↓reduceIte,Nat.reduceEqDiff,Nat.reduceAdd,resP,tupV,wfV,wfL,yB,yA]
    simp [Gv, tupV, gvV, gvL, wk, wkL, wkR, wfV, wfL]
   | false =>
    simp -implicitDefEqProofs only [rX,↓rY]
    refine call_is (ok41 L.frm) ⟨⟨trivial, trivial⟩, rfl, trivial⟩ rfl trivial ?_
    cases h3 : partyB L.frm with
    | false =>
     obtain ⟨e1, e2⟩ := hno (by unfold outL; rw [h1, h2, h3]; rfl)
     rw [e1, e2]
     simp -implicitDefEqProofs only [rX,↓rY,ofConst,cells?,splice,↓reduceIte,Nat.reduceEqDiff,Nat.reduceAdd,isC,yC,yB,yA]
     refine ret_data ?_
     simp -implicitDefEqProofs only [rX,↓rY,↓reduceIte,Nat.reduceEqDiff,Nat.reduceAdd,resP,tupV,wfV,wfL,yB,yA]
     simp [Gv, tupV, gvV, gvL, wk, wkL, wkR, wfV, wfL]
    | true =>
     cases h4 : L.frm == p.me with
     | true =>
      obtain ⟨e1, e2⟩ := hno (by unfold outL; rw [h1, h2, h3, h4]; rfl)
      rw [e1, e2]
      simp -implicitDefEqProofs only [rX,↓rY,ofConst,cells?,splice,↓reduceIte,Nat.reduceEqDiff,Nat.reduceAdd,isC,yC,yB,yA,h4,le_17]
      refine ret_data ?_
      simp -implicitDefEqProofs only [rX,↓rY,↓reduceIte,Nat.reduceEqDiff,Nat.reduceAdd,resP,tupV,wfV,wfL,yB,yA]
      simp [Gv, tupV, gvV, gvL, wk, wkL, wkR, wfV, wfL]
     | false =>
      simp -implicitDefEqProofs only [rX,↓rY,↓reduceIte,Nat.reduceEqDiff,yA,h4,le_17,le_19]
      refine call_is (ok52 L.serial) ⟨⟨trivial, trivial⟩, rfl, trivial⟩ rfl trivial ?_
      cases h5 : countsB L.serial with
      | false =>
       obtain ⟨e1, e2⟩ := hno (by unfold outL; rw [h1, h2, h3, h4, h5]; rfl)
       rw [e1, e2]
       simp -implicitDefEqProofs only [rX,↓rY,ofConst,cells?,splice,↓reduceIte,Nat.reduceEqDiff,Nat.reduceAdd,isC,yC,yB,yA]
       refine ret_data ?_
       simp -implicitDefEqProofs only [rX,↓rY,↓reduceIte,Nat.reduceEqDiff,Nat.reduceAdd,resP,tupV,wfV,wfL,yB,yA]
       simp [Gv, tupV, gvV, gvL, wk, wkL, wkR, wfV, wfL]
      | true =>
       simp -implicitDefEqProofs only [rX,↓rY,↓reduceIte,Nat.reduceEqDiff,le_20]
       refine call_is (ok69 L.uses) ⟨⟨trivial, trivial⟩, ⟨rfl, rfl⟩, trivial⟩ rfl trivial ?_
       cases h6 : decide (0 < L.uses.length) && usB L.uses with
       | false =>
        obtain ⟨e1, e2⟩ := hno (by rw [hrt, h6]; simp)
        rw [e1, e2]
        simp -implicitDefEqProofs only [rX,↓rY,ofConst,cells?,splice,↓reduceIte,Nat.reduceEqDiff,Nat.reduceAdd,isC,yC,yB,yA]
        refine ret_data ?_
        simp -implicitDefEqProofs only [rX,↓rY,↓reduceIte,Nat.reduceEqDiff,Nat.reduceAdd,resP,tupV,wfV,wfL,yB,yA]
        simp [Gv, tupV, gvV, gvL, wk, wkL, wkR, wfV, wfL]
       | true =>
        have hgo : ¬ (outL p L || !rightL L) = true := by rw [hrt, h6]; unfold outL; rw [h1, h2, h3, h4, h5]; simp
        simp -implicitDefEqProofs only [rX,↓rY,↓reduceIte,Nat.reduceEqDiff,Nat.reduceAdd,yB,yA,l_len,l_t]
        have hus : usB L.uses = true := by simp at h6; exact h6.2
        have hu := (usB_iff.1 hus).1
        have hA : hearA p L = giftP p L := by unfold hearA; rw [if_neg hgo, if_pos hk1]
        rw [hA]
        refine call_is (ok70 p L hl hs hu hm) pl_lend rfl trivial ?_
        obtain ⟨gi, gm⟩ := giftP_id (p := p) (L := L)
        generalize giftP p L = r at gi gm ⊢
        simp -implicitDefEqProofs only [rX,↓rY,rdK,ofConst,cells?,splice,↓reduceIte,Nat.reduceEqDiff,Nat.reduceAdd,reduceCtorEq,freshP,buildP,litsP,isD,isC,Nat.reduceLT,Nat.reduceLeDiff,yC,yB,yA,le_17]
        cases hn : r.2 == 0 with
        | true =>
         have hn' : r.2 = 0 := by simpa using hn
         have e : ansN p L r.2 = [] := if_pos hn'
         rw [e]
         simp -implicitDefEqProofs only [↓rY]
         refine ret_data ?_
         simp -implicitDefEqProofs only [rX,↓rY,↓reduceIte,Nat.reduceEqDiff,Nat.reduceAdd,resP,tupV,wfV,wfL,yB,yA]
         simp [Gv, tupV, gvV, gvL, wk, wkL, wkR, wfV, wfL]
        | false =>
         have hn' : r.2 ≠ 0 := by simpa using hn
         have e : ansN p L r.2 = [ackN r.1 L.frm r.2] := by unfold ansN; rw [if_neg hn']; unfold ackN; rw [gi, gm]
         rw [e]
         simp -implicitDefEqProofs only [↓rY]
         rw [retP_eq]
         simp -implicitDefEqProofs only [rX,↓rY,↓reduceIte,Nat.reduceEqDiff,Nat.reduceAdd,resP,tupV,keepP,liveP,wfV,wfL,yB,yA]
         refine ⟨[.dead, .dead, .dead, .dead, .arr 21 [ackN r.1 L.frm r.2]], ⟨⟨trivial, trivial, trivial, trivial, rfl, trivial⟩, by simp [tupV, wfV, wfL, liveP], by simp [wfB]⟩, ?_⟩
         simp [Gv, tupV, gvV, gvL, wk, wkL, wkR, wfV, wfL, blk]
 ·by_cases hk2 : L.kind = 2
  ·have hov : ofV L.kind = .tup [.agg [.clo 71 [], .clo 72 []], .b true] := by unfold ofV; rw [if_neg hk1, if_pos hk2]
   have hrt : rightL L = decide (L.uses.length = 0) := by unfold rightL; rw [if_neg hk1, if_pos hk2]
   rw [hov]
   simp -implicitDefEqProofs only [rX,↓rY,ofConst,cells?,splice,↓reduceIte,Nat.reduceEqDiff,Nat.reduceAdd,freshP,isC,Nat.reduceLeDiff,yC,yB,yA,l_len,le_17,le_18]
   refine Eq.mpr (eq_dig (d := L.id) (e := p.id)) ?_
   cases h1 : L.id == p.id with
   | false =>
    obtain ⟨e1, e2⟩ := hno (by unfold outL; rw [h1]; rfl)
    rw [e1, e2]
    simp -implicitDefEqProofs only [rX,↓rY]
    refine ret_data ?_
    simp -implicitDefEqProofs only [rX,↓rY,↓reduceIte,Nat.reduceEqDiff,Nat.reduceAdd,resP,tupV,wfV,wfL,yB,yA]
    simp [Gv, tupV, gvV, gvL, wk, wkL, wkR, wfV, wfL]
   | true =>
    cases h2 : L.to != p.me with
    | true =>
     obtain ⟨e1, e2⟩ := hno (by unfold outL; rw [h1, h2]; rfl)
     rw [e1, e2]
     simp -implicitDefEqProofs only [rX,↓rY]
     refine ret_data ?_
     simp -implicitDefEqProofs only [rX,↓rY,↓reduceIte,Nat.reduceEqDiff,Nat.reduceAdd,resP,tupV,wfV,wfL,yB,yA]
     simp [Gv, tupV, gvV, gvL, wk, wkL, wkR, wfV, wfL]
    | false =>
     simp -implicitDefEqProofs only [rX,↓rY]
     refine call_is (ok41 L.frm) ⟨⟨trivial, trivial⟩, rfl, trivial⟩ rfl trivial ?_
     cases h3 : partyB L.frm with
     | false =>
      obtain ⟨e1, e2⟩ := hno (by unfold outL; rw [h1, h2, h3]; rfl)
      rw [e1, e2]
      simp -implicitDefEqProofs only [rX,↓rY,ofConst,cells?,splice,↓reduceIte,Nat.reduceEqDiff,Nat.reduceAdd,isC,yC,yB,yA]
      refine ret_data ?_
      simp -implicitDefEqProofs only [rX,↓rY,↓reduceIte,Nat.reduceEqDiff,Nat.reduceAdd,resP,tupV,wfV,wfL,yB,yA]
      simp [Gv, tupV, gvV, gvL, wk, wkL, wkR, wfV, wfL]
     | true =>
      cases h4 : L.frm == p.me with
      | true =>
       obtain ⟨e1, e2⟩ := hno (by unfold outL; rw [h1, h2, h3, h4]; rfl)
       rw [e1, e2]
       simp -implicitDefEqProofs only [rX,↓rY,ofConst,cells?,splice,↓reduceIte,Nat.reduceEqDiff,Nat.reduceAdd,isC,yC,yB,yA,h4,le_17]
       refine ret_data ?_
       simp -implicitDefEqProofs only [rX,↓rY,↓reduceIte,Nat.reduceEqDiff,Nat.reduceAdd,resP,tupV,wfV,wfL,yB,yA]
       simp [Gv, tupV, gvV, gvL, wk, wkL, wkR, wfV, wfL]
      | false =>
       simp -implicitDefEqProofs only [rX,↓rY,↓reduceIte,Nat.reduceEqDiff,yA,h4,le_17,le_19]
       refine call_is (ok52 L.serial) ⟨⟨trivial, trivial⟩, rfl, trivial⟩ rfl trivial ?_
       cases h5 : countsB L.serial with
       | false =>
        obtain ⟨e1, e2⟩ := hno (by unfold outL; rw [h1, h2, h3, h4, h5]; rfl)
        rw [e1, e2]
        simp -implicitDefEqProofs only [rX,↓rY,ofConst,cells?,splice,↓reduceIte,Nat.reduceEqDiff,Nat.reduceAdd,isC,yC,yB,yA]
        refine ret_data ?_
        simp -implicitDefEqProofs only [rX,↓rY,↓reduceIte,Nat.reduceEqDiff,Nat.reduceAdd,resP,tupV,wfV,wfL,yB,yA]
        simp [Gv, tupV, gvV, gvL, wk, wkL, wkR, wfV, wfL]
       | true =>
        simp -implicitDefEqProofs only [rX,↓rY,↓reduceIte,Nat.reduceEqDiff,le_20]
        refine call_is (ok71 L.uses) ⟨⟨trivial, trivial⟩, ⟨rfl, rfl⟩, trivial⟩ rfl trivial ?_
        cases h6 : decide (L.uses.length = 0) with
        | false =>
         obtain ⟨e1, e2⟩ := hno (by rw [hrt, h6]; simp)
         rw [e1, e2]
         simp -implicitDefEqProofs only [rX,↓rY,ofConst,cells?,splice,↓reduceIte,Nat.reduceEqDiff,Nat.reduceAdd,isC,yC,yB,yA]
         refine ret_data ?_
         simp -implicitDefEqProofs only [rX,↓rY,↓reduceIte,Nat.reduceEqDiff,Nat.reduceAdd,resP,tupV,wfV,wfL,yB,yA]
         simp [Gv, tupV, gvV, gvL, wk, wkL, wkR, wfV, wfL]
        | true =>
         have hgo : ¬ (outL p L || !rightL L) = true := by rw [hrt, h6]; unfold outL; rw [h1, h2, h3, h4, h5]; simp
         simp -implicitDefEqProofs only [rX,↓rY,↓reduceIte,Nat.reduceEqDiff,Nat.reduceAdd,yB,yA,l_len,l_t]
         have hA : hearA p L = (ackP p L, 0) := by unfold hearA; rw [if_neg hgo, if_neg hk1]
         have e : ansN p L 0 = [] := if_pos rfl
         rw [hA, e]
         refine call_is (ok72 p L hm2.mks (by omega) ho) pl_lend rfl trivial ?_
         generalize ackP p L = r
         have h0 : ((0 : Int) == 0) = true := rfl
         simp -implicitDefEqProofs only [rX,↓rY,rdK,ofConst,cells?,splice,↓reduceIte,Nat.reduceEqDiff,Nat.reduceAdd,reduceCtorEq,freshP,buildP,litsP,isC,Nat.reduceLT,Nat.reduceLeDiff,yC,yB,yA,h0,le_17]
         refine ret_data ?_
         simp -implicitDefEqProofs only [rX,↓rY,↓reduceIte,Nat.reduceEqDiff,Nat.reduceAdd,resP,tupV,wfV,wfL,yB,yA]
         simp [Gv, tupV, gvV, gvL, wk, wkL, wkR, wfV, wfL]
  ·have hov : ofV L.kind = .tup [.agg [.v .nilFunc, .v .nilFunc], .b false] := by unfold ofV; rw [if_neg hk1, if_neg hk2]
   have hrt : rightL L = false := by unfold rightL; rw [if_neg hk1, if_neg hk2]
   obtain ⟨e1, e2⟩ := hno (by rw [hrt]; simp)
   rw [e1, e2, hov]
   simp -implicitDefEqProofs only [rX,↓rY,ofConst,cells?,splice,↓reduceIte,Nat.reduceEqDiff,Nat.reduceAdd,freshP,isC,yC,yB,yA]
   refine ret_data ?_
   simp -implicitDefEqProofs only [rX,↓rY,↓reduceIte,Nat.reduceEqDiff,Nat.reduceAdd,resP,tupV,wfV,wfL,yB,yA]
   simp [Gv, tupV, gvV, gvL, wk, wkL, wkR, wfV, wfL]
end Go.Fx.O
namespace Go.Fx.O
open Go Go.Fx Go.Proofs Go.Fx.R
set_option maxRecDepth 20000
theorem ok18 (p : Purse) (L : Ltr) (hl : Vd p.left) (hs : Vd p.spent) (hm : MkOk p.heard p.me) (hm2 : MkOk p.sent p.me) (ho : p.out.length ≤ 1000000) : Ok 18 [.agg p.enc, .agg L.enc] (Is (.tup [.agg (hearA p L).1.enc, ltrs (ansL p L (hearA p L).2)])) :=
 okN_dp (raw18 p L hl hs hm hm2 ho) (.inr (.inr ⟨_, _, rfl, rfl, ⟨.inl rfl, ans_dp, trivial⟩⟩))
def pat19 (p : Purse) (L : Ltr) (k : Nat) : St := ⟨[(9, .i k), (8, .sl 3 0 ((p.out.take k).filter (keepB L)).length), (4, .ptr 2 0 0), (3, .ptr 1 0 0), (2, .ptr 0 0 0)], [.var p.enc, .var L.enc, .var [u0, u0, u0, u0, u0, u0, u0, u0, u0, u0, u0, u0, u0, u0, u0, u0, .i 0, .nil, .nil, .nil, .nil, .nil, .nil], .arr 3 (((p.out.take k).filter (keepB L)).map Gift.enc)], 3⟩
set_option maxHeartbeats 2000000 in
theorem ok19 (p : Purse) (L : Ltr) (hl : Vd p.left) (hs : Vd p.spent) (hm : MkOk p.heard p.me) (hm2 : MkOk p.sent p.me) (ho : p.out.length ≤ 1000000) : Ok 19 [.agg p.enc, .agg L.enc] (Is (.agg ((hearA p L).1.enc ++ [ltrs (ansL p L (hearA p L).2)]))) := by
 refine okN_gv ?_
 refine ok_of lw19 (by simp) ?_
 unfold c19
 simp -implicitDefEqProofs only [rX,↓rY,ofConst,cells?,splice,↓reduceIte,Nat.reduceEqDiff,Nat.reduceAdd,reduceCtorEq,freshP,buildP,isC,Nat.reduceLeDiff,cxN,zc22s,yC,yB,yA,args0,l_len,le_17,le_18]
 have hml := hm.len
 have hmb := mark_b (who := L.frm) hm
 have hno : (outL p L || !rightL L) = true → hearA p L = (p, 0) := fun h => if_pos h
 refine Eq.mpr (eq_dig (d := L.id) (e := p.id)) ?_
 cases h1 : L.id == p.id with
 | false =>
  rw [hno (by unfold outL; rw [h1]; rfl)]
  rw [show ansL p L 0 = [] from if_pos rfl]
  simp -implicitDefEqProofs only [rX,↓rY]
  refine ret_data ?_
  simp -implicitDefEqProofs only [rX,↓rY,↓reduceIte,Nat.reduceEqDiff,Nat.reduceAdd,resP,tupV,wfV,wfL,yB,yA]
  simp [Gv, tupV, gvV, gvL, wk, wkL, wkR, wfV, wfL]
 | true =>
  cases h2 : L.to != p.me with
  | true =>
   rw [hno (by unfold outL; rw [h1, h2]; rfl)]
   rw [show ansL p L 0 = [] from if_pos rfl]
   simp -implicitDefEqProofs only [rX,↓rY]
   refine ret_data ?_
   simp -implicitDefEqProofs only [rX,↓rY,↓reduceIte,Nat.reduceEqDiff,Nat.reduceAdd,resP,tupV,wfV,wfL,yB,yA]
   simp [Gv, tupV, gvV, gvL, wk, wkL, wkR, wfV, wfL]
  | false =>
   simp -implicitDefEqProofs only [rX,↓rY]
   refine call_is (ok33 L.frm) ⟨⟨trivial, trivial⟩, rfl, trivial⟩ rfl trivial ?_
   cases h3 : partyB L.frm with
   | false =>
    rw [hno (by unfold outL; rw [h1, h2, h3]; rfl)]
    rw [show ansL p L 0 = [] from if_pos rfl]
    simp -implicitDefEqProofs only [rX,↓rY,ofConst,cells?,splice,↓reduceIte,Nat.reduceEqDiff,Nat.reduceAdd,buildP,isC,Nat.reduceLeDiff,yC,yB,yA]
    refine ret_data ?_
    simp -implicitDefEqProofs only [rX,↓rY,↓reduceIte,Nat.reduceEqDiff,Nat.reduceAdd,resP,tupV,wfV,wfL,yB,yA]
    simp [Gv, tupV, gvV, gvL, wk, wkL, wkR, wfV, wfL]
   | true =>
    cases h4 : L.frm == p.me with
    | true =>
     rw [hno (by unfold outL; rw [h1, h2, h3, h4]; rfl)]
     rw [show ansL p L 0 = [] from if_pos rfl]
     simp -implicitDefEqProofs only [rX,↓rY,ofConst,cells?,splice,↓reduceIte,Nat.reduceEqDiff,Nat.reduceAdd,buildP,isC,Nat.reduceLeDiff,yC,yB,yA,h4,le_17]
     refine ret_data ?_
     simp -implicitDefEqProofs only [rX,↓rY,↓reduceIte,Nat.reduceEqDiff,Nat.reduceAdd,resP,tupV,wfV,wfL,yB,yA]
     simp [Gv, tupV, gvV, gvL, wk, wkL, wkR, wfV, wfL]
    | false =>
     simp -implicitDefEqProofs only [rX,↓rY,↓reduceIte,Nat.reduceEqDiff,yA,h4,le_17,le_19]
     refine call_is (ok53 L.serial) ⟨⟨trivial, trivial⟩, rfl, trivial⟩ rfl trivial ?_
     cases h5 : countsB L.serial with
     | false =>
      rw [hno (by unfold outL; rw [h1, h2, h3, h4, h5]; rfl)]
      rw [show ansL p L 0 = [] from if_pos rfl]
      simp -implicitDefEqProofs only [rX,↓rY,cells?,splice,↓reduceIte,Nat.reduceEqDiff,Nat.reduceAdd,buildP,isC,Nat.reduceLeDiff,yC,yB,yA]
      refine ret_data ?_
      simp -implicitDefEqProofs only [rX,↓rY,↓reduceIte,Nat.reduceEqDiff,Nat.reduceAdd,resP,tupV,wfV,wfL,yB,yA]
      simp [Gv, tupV, gvV, gvL, wk, wkL, wkR, wfV, wfL]
     | true =>
      simp -implicitDefEqProofs only [rX,↓rY,↓reduceIte,Nat.reduceEqDiff,Nat.reduceAdd,le_20]
      have hout : outL p L = false := by unfold outL; rw [h1, h2, h3, h4, h5]; rfl
      refine call_is (ok32 L.uses) ⟨⟨trivial, trivial⟩, ⟨rfl, rfl⟩, trivial⟩ rfl trivial ?_
      by_cases hk1 : L.kind = 1
      ·have hk1i : (L.kind == 1) = true := by simpa using hk1
       have hk2i : (L.kind == 2) = false := by rw [beq_eq_false_iff_ne]; omega
       have hrt : rightL L = (decide (0 < L.uses.length) && usB L.uses) := if_pos hk1
       cases h6 : usB L.uses with
       | false =>
        rw [hno (by rw [hrt, h6]; simp)]
        rw [show ansL p L 0 = [] from if_pos rfl]
        simp -implicitDefEqProofs only [rX,↓rY,rdK,ofConst,cells?,splice,↓reduceIte,Nat.reduceEqDiff,Nat.reduceAdd,buildP,isC,Nat.reduceLeDiff,yC,yB,yA,hk1i,hk2i,le_16,le_17,le_19,le_20]
        refine ret_data ?_
        simp -implicitDefEqProofs only [rX,↓rY,↓reduceIte,Nat.reduceEqDiff,Nat.reduceAdd,resP,tupV,wfV,wfL,yB,yA]
        simp [Gv, tupV, gvV, gvL, wk, wkL, wkR, wfV, wfL]
       | true =>
        have hu := (usB_iff.1 h6).1
        have hul := hu.len
        have hbl := (hl.both hu.2).len
        cases h7 : decide (0 < L.uses.length) with
        | false =>
         have h7i : decide ((0 : Int) < (L.uses.length : Int)) = false := by simp at h7; simp; omega
         rw [hno (by rw [hrt, h6, h7]; simp)]
         rw [show ansL p L 0 = [] from if_pos rfl]
         simp -implicitDefEqProofs only [rX,↓rY,rdK,ofConst,cells?,splice,↓reduceIte,Nat.reduceEqDiff,Nat.reduceAdd,buildP,isC,Nat.reduceLeDiff,yC,yB,yA,hk1i,hk2i,h7i,le_16,le_17,le_19,le_20]
         intro _
         refine ret_data ?_
         simp -implicitDefEqProofs only [rX,↓rY,↓reduceIte,Nat.reduceEqDiff,Nat.reduceAdd,resP,tupV,wfV,wfL,yB,yA]
         simp [Gv, tupV, gvV, gvL, wk, wkL, wkR, wfV, wfL]
        | true =>
         have h7i : decide ((0 : Int) < (L.uses.length : Int)) = true := by simp at h7; simp; omega
         have hA : hearA p L = giftP p L := by unfold hearA; rw [if_neg (by rw [hout, hrt, h6, h7]; simp), if_pos hk1]
         have hcs : 1 ≤ L.serial := by unfold countsB at h5; simp at h5; omega
         rw [hA]
         simp -implicitDefEqProofs only [rX,↓rY,rdK,ofConst,cells?,splice,↓reduceIte,Nat.reduceEqDiff,Nat.reduceAdd,buildP,isC,Nat.reduceLeDiff,yC,yB,yA,hk1i,h7i,le_16,le_17,le_19,le_20]
         intro _
         refine call_is (ok36 p.heard L.frm) ⟨⟨trivial, trivial, trivial⟩, ⟨rfl, rfl⟩, rfl, trivial⟩ rfl trivial ?_
         cases h8 : decide (L.serial ≤ markOf p.heard L.frm) with
         | true =>
          have h8' : L.serial ≤ markOf p.heard L.frm := by simpa using h8
          have e : giftP p L = (p, markOf p.heard L.frm) := if_pos h8'
          have e2 : ansL p L (markOf p.heard L.frm) = [ackL p L.frm (markOf p.heard L.frm)] := if_neg (by omega)
          rw [e]
          simp only [e2]
          simp -implicitDefEqProofs only [rX,↓rY,↓reduceIte,Nat.reduceEqDiff,Nat.reduceAdd,yB,yA,h8,le_17,le_19]
          refine call_is (ok54 p L.frm (markOf p.heard L.frm)) (by simp [lendsOk, lendOk, lends, lend, wkL, wk, wkR]) rfl trivial ?_
          simp -implicitDefEqProofs only [rX,↓rY,cells?,splice,↓reduceIte,Nat.reduceEqDiff,Nat.reduceAdd,isC,yC,yA]
          refine ret_data ?_
          simp -implicitDefEqProofs only [rX,↓rY,↓reduceIte,Nat.reduceEqDiff,Nat.reduceAdd,resP,tupV,wfV,wfL,yB,yA]
          simp [Gv, tupV, gvV, gvL, wk, wkL, wkR, wfV, wfL]
         | false =>
          have h8' : ¬ L.serial ≤ markOf p.heard L.frm := by simpa using h8
          have hno2 : gOk p L = false → giftP p L = (p, 0) := fun h => by unfold giftP; rw [if_neg h8', h]; rfl
          have ea : ansL p L 0 = [] := if_pos rfl
          simp -implicitDefEqProofs only [rX,↓rY,↓reduceIte,Nat.reduceEqDiff,Nat.reduceAdd,yA,h8,le_19,le_20]
          refine call_is (ok47 p.left L.uses hl hu.2) ⟨⟨trivial, trivial, trivial⟩, ⟨rfl, rfl⟩, ⟨rfl, rfl⟩, trivial⟩ rfl trivial ?_
          simp -implicitDefEqProofs only [rX,↓rY,rdK,ofConst,cells?,splice,↓reduceIte,Nat.reduceEqDiff,Nat.reduceAdd,buildP,isC,Nat.reduceLeDiff,yC,yB,yA,le_16,le_17,le_19,le_20]
          refine ⟨by simp only [lo, hi]; omega, ?_⟩
          cases g2 : L.serial == markOf p.heard L.frm + 1 with
          | false =>
           rw [hno2 (by unfold gOk; rw [g2]; rfl)]
           simp only [ea]
           simp -implicitDefEqProofs only [↓rY,hk2i]
           refine ret_data ?_
           simp -implicitDefEqProofs only [rX,↓rY,↓reduceIte,Nat.reduceEqDiff,Nat.reduceAdd,resP,tupV,wfV,wfL,yB,yA]
           simp [Gv, tupV, gvV, gvL, wk, wkL, wkR, wfV, wfL]
          | true =>
           simp -implicitDefEqProofs only [↓rY]
           refine call_is (ok34 L.uses p.left hu) ⟨⟨trivial, trivial, trivial⟩, ⟨rfl, rfl⟩, ⟨rfl, rfl⟩, trivial⟩ rfl trivial ?_
           cases g3 : decide ((meetS L.uses p.left).length = 0) with
           | false =>
            rw [hno2 (by unfold gOk; rw [g2, g3]; rfl)]
            simp only [ea]
            simp -implicitDefEqProofs only [rX,↓rY,rdK,ofConst,cells?,splice,↓reduceIte,Nat.reduceEqDiff,Nat.reduceAdd,buildP,isC,Nat.reduceLeDiff,yC,yB,yA,hk2i,le_16,le_17,le_19,le_20]
            refine ret_data ?_
            simp -implicitDefEqProofs only [rX,↓rY,↓reduceIte,Nat.reduceEqDiff,Nat.reduceAdd,resP,tupV,wfV,wfL,yB,yA]
            simp [Gv, tupV, gvV, gvL, wk, wkL, wkR, wfV, wfL]
           | true =>
            simp -implicitDefEqProofs only [rX,↓rY,↓reduceIte,Nat.reduceEqDiff,le_20]
            refine call_is (ok34 L.uses p.spent hu) ⟨⟨trivial, trivial, trivial⟩, ⟨rfl, rfl⟩, ⟨rfl, rfl⟩, trivial⟩ rfl trivial ?_
            cases g4 : decide ((meetS L.uses p.spent).length = 0) with
            | false =>
             rw [hno2 (by unfold gOk; rw [g2, g3, g4]; rfl)]
             simp only [ea]
             simp -implicitDefEqProofs only [rX,↓rY,rdK,ofConst,cells?,splice,↓reduceIte,Nat.reduceEqDiff,Nat.reduceAdd,buildP,isC,Nat.reduceLeDiff,yC,yB,yA,hk2i,le_16,le_17,le_19,le_20]
             refine ret_data ?_
             simp -implicitDefEqProofs only [rX,↓rY,↓reduceIte,Nat.reduceEqDiff,Nat.reduceAdd,resP,tupV,wfV,wfL,yB,yA]
             simp [Gv, tupV, gvV, gvL, wk, wkL, wkR, wfV, wfL]
            | true =>
             cases g5 : decide ((bothS p.left L.uses).length ≤ 1000) with
             | false =>
              have g5i : decide (((bothS p.left L.uses).length : Int) ≤ 1000) = false := by simp at g5; simp; omega
              rw [hno2 (by unfold gOk; rw [g2, g3, g4, g5]; rfl)]
              simp only [ea]
              simp -implicitDefEqProofs only [rX,↓rY,rdK,ofConst,cells?,splice,↓reduceIte,Nat.reduceEqDiff,Nat.reduceAdd,buildP,isC,Nat.reduceLeDiff,yC,yB,yA,hk2i,g5i,le_16,le_17,le_19,le_20]
              intro _
              refine ret_data ?_
              simp -implicitDefEqProofs only [rX,↓rY,↓reduceIte,Nat.reduceEqDiff,Nat.reduceAdd,resP,tupV,wfV,wfL,yB,yA]
              simp [Gv, tupV, gvV, gvL, wk, wkL, wkR, wfV, wfL]
             | true =>
              have g5i : decide (((bothS p.left L.uses).length : Int) ≤ 1000) = true := by simp at g5; simp; omega
              have g2' : L.serial = markOf p.heard L.frm + 1 := by simpa using g2
              have hyes : gOk p L = true := by unfold gOk; rw [g2, g3, g4, g5]; rfl
              have e : giftP p L = ({ p with left := bothS p.left L.uses, heard := setM p.heard L.frm L.serial }, L.serial) := by unfold giftP; rw [if_neg h8', if_pos hyes]
              have e2 : ansL p L L.serial = [ackL { p with left := bothS p.left L.uses, heard := setM p.heard L.frm L.serial } L.frm L.serial] := if_neg (by omega)
              rw [e]
              simp only [e2]
              simp -implicitDefEqProofs only [rX,↓rY,rdK,ofConst,cells?,splice,↓reduceIte,Nat.reduceEqDiff,Nat.reduceAdd,buildP,isC,Nat.reduceLeDiff,yC,yB,yA,g5i,le_16,le_17,le_19,le_20]
              intro _
              refine ⟨by simp only [lo, hi]; omega, ?_⟩
              rw [← g2']
              refine call_is (ok48 p.heard L.frm L.serial hm.mks (by omega)) ⟨⟨trivial, trivial, trivial, trivial⟩, ⟨rfl, rfl⟩, rfl, rfl, trivial⟩ rfl trivial ?_
              simp -implicitDefEqProofs only [rX,↓rY,ofConst,cells?,splice,↓reduceIte,Nat.reduceEqDiff,Nat.reduceAdd,isC,Nat.reduceLeDiff,yC,yB,yA,le_17]
              refine ⟨by simp only [lo, hi]; omega, ?_⟩
              rw [← g2']
              refine call_is (ok54 { p with left := bothS p.left L.uses, heard := setM p.heard L.frm L.serial } L.frm L.serial) (by simp [lendsOk, lendOk, lends, lend, wkL, wk, wkR]) rfl trivial ?_
              simp -implicitDefEqProofs only [rX,↓rY,cells?,splice,↓reduceIte,Nat.reduceEqDiff,Nat.reduceAdd,isC,yC,yA]
              refine ret_data ?_
              simp -implicitDefEqProofs only [rX,↓rY,↓reduceIte,Nat.reduceEqDiff,Nat.reduceAdd,resP,tupV,wfV,wfL,yB,yA]
              simp [Gv, tupV, gvV, gvL, wk, wkL, wkR, wfV, wfL]
      ·have hk1i : (L.kind == 1) = false := by simpa using hk1
       by_cases hk2 : L.kind = 2
       ·have hk2i : (L.kind == 2) = true := by simpa using hk2
        have hrt : rightL L = decide (L.uses.length = 0) := by unfold rightL; rw [if_neg hk1, if_pos hk2]
        cases h7 : decide (L.uses.length = 0) with
        | false =>
         have h7i : ((L.uses.length : Int) == 0) = false := by simp at h7; simp; omega
         rw [hno (by rw [hrt, h7]; simp)]
         rw [show ansL p L 0 = [] from if_pos rfl]
         simp -implicitDefEqProofs only [rX,↓rY,rdK,ofConst,cells?,splice,↓reduceIte,Nat.reduceEqDiff,Nat.reduceAdd,buildP,isC,Nat.reduceLeDiff,yC,yB,yA,hk1i,hk2i,h7i,le_16,le_17,le_19,le_20]
         intro _
         refine ret_data ?_
         simp -implicitDefEqProofs only [rX,↓rY,↓reduceIte,Nat.reduceEqDiff,Nat.reduceAdd,resP,tupV,wfV,wfL,yB,yA]
         simp [Gv, tupV, gvV, gvL, wk, wkL, wkR, wfV, wfL]
        | true =>
         have h7i : ((L.uses.length : Int) == 0) = true := by simp at h7; simp; omega
         have hA : hearA p L = (ackP p L, 0) := by unfold hearA; rw [if_neg (by rw [hout, hrt, h7]; simp), if_neg hk1]
         rw [hA]
         rw [show ansL p L 0 = [] from if_pos rfl]
         simp -implicitDefEqProofs only [rX,↓rY,rdK,ofConst,cells?,splice,↓reduceIte,Nat.reduceEqDiff,Nat.reduceAdd,buildP,isC,Nat.reduceLeDiff,yC,yB,yA,hk1i,hk2i,h7i,le_16,le_17,le_19,le_20]
         intro _
         refine call_is (ok36 p.sent L.frm) ⟨⟨trivial, trivial, trivial⟩, ⟨rfl, rfl⟩, rfl, trivial⟩ rfl trivial ?_
         cases h8 : decide (L.serial ≤ markOf p.sent L.frm) with
         | false =>
          have h8' : ¬ L.serial ≤ markOf p.sent L.frm := by simpa using h8
          rw [show ackP p L = p from if_neg h8']
          simp -implicitDefEqProofs only [rX,↓rY,cells?,splice,↓reduceIte,Nat.reduceEqDiff,Nat.reduceAdd,buildP,isC,Nat.reduceLeDiff,yC,yB,yA,h8]
          refine ret_data ?_
          simp -implicitDefEqProofs only [rX,↓rY,↓reduceIte,Nat.reduceEqDiff,Nat.reduceAdd,resP,tupV,wfV,wfL,yB,yA]
          simp [Gv, tupV, gvV, gvL, wk, wkL, wkR, wfV, wfL]
         | true =>
          have h8' : L.serial ≤ markOf p.sent L.frm := by simpa using h8
          rw [show ackP p L = { p with out := p.out.filter (keepB L) } from if_pos h8']
          simp -implicitDefEqProofs only [rX,↓rY,ofConst,↓reduceIte,Nat.reduceEqDiff,Nat.reduceAdd,yA,h8]
          refine loopP_ghost (.virt 1 3 (by decide) (.nilE 8 3 rfl (.refl _))) (pat19 p L) (fun k => k ≤ p.out.length) (fun k => p.out.length - k) 0 (by omega) ?_ ?_
          ·unfold pat19
           simp -implicitDefEqProofs only [rX,↓reduceIte,Nat.reduceEqDiff,leE,leH,leB,leV,leVs,keepP,liveP,wfE,wfB,wfV,wfL,yE,yL,vP]
           exact ⟨l_le, l_wf⟩
          rintro k hk
          unfold pat19 c19l0
          rcases yG k p.out.length with hk' | hk'
          ·have hd : decide ((k : Int) < (p.out.length : Int)) = true := decide_eq_true (by omega)
           have hkk : (0 : Int) ≤ k ∧ (k : Int) < p.out.length := ⟨by omega, by omega⟩
           have htk : yF ((p.out.take k).filter (keepB L)).length (((p.out.take k).filter (keepB L)).map Gift.enc) = ((p.out.take k).filter (keepB L)).map Gift.enc := yD (by simp)
           have hfl : ((p.out.take k).filter (keepB L)).length ≤ k := yU (vO ..) (by rw [yT]; omega)
           have hst : (p.out.take (k + 1)).filter (keepB L) = (p.out.take k).filter (keepB L) ++ (if keepB L p.out[k] then [p.out[k]] else []) := by
            rw [yJ, yK hk', vJ]
            simp only [Option.toList_some, vQ, vP]
           cases g1 : p.out[k].to != L.frm with
           | true =>
            rw [show keepB L p.out[k] = true by unfold keepB; rw [g1]; rfl] at hst
            simp -implicitDefEqProofs only [rX,↓rY,ofConst,cells?,↓reduceIte,Nat.reduceEqDiff,Nat.reduceAdd,reduceCtorEq,freshP,litsP,leE,leH,leB,leV,leVs,keepP,liveP,wfE,wfB,wfV,wfL,killE,killB,kill,kills,St.kill,Nat.reduceLT,yB,yA,g1,hd,htk,g_len,g_0,g_D,g_t,le_17,l_kill,↓op_litsf,↓frzP_n,↓frzP_c,↓frzQ_a]
            refine fun _ => ⟨hkk, hk', hkk, hk', by omega, by simp only [lo, hi]; omega, k + 1, ⟨by omega, by omega⟩, ?_⟩
            rw [hst]
            simp only [if_true, vC, vW, yP, vX, vY]
            exact ⟨⟨by simp, trivial⟩, ⟨l_le, trivial⟩, l_wf⟩
           | false =>
            cases g2 : decide (L.serial < p.out[k].serial) with
            | true =>
             rw [show keepB L p.out[k] = true by unfold keepB; rw [g1, g2]; rfl] at hst
             simp -implicitDefEqProofs only [rX,↓rY,ofConst,cells?,↓reduceIte,Nat.reduceEqDiff,Nat.reduceAdd,reduceCtorEq,freshP,litsP,leE,leH,leB,leV,leVs,keepP,liveP,wfE,wfB,wfV,wfL,killE,killB,kill,kills,St.kill,Nat.reduceLT,yB,yA,g1,g2,hd,htk,g_len,g_0,g_1,g_D,g_t,le_17,le_19,l_kill,↓op_litsf,↓frzP_n,↓frzP_c,↓frzQ_a]
             refine fun _ => ⟨hkk, hk', hkk, hk', hkk, hk', by omega, by simp only [lo, hi]; omega, k + 1, ⟨by omega, by omega⟩, ?_⟩
             rw [hst]
             simp only [if_true, vC, vW, yP, vX, vY]
             exact ⟨⟨by simp, trivial⟩, ⟨l_le, trivial⟩, l_wf⟩
            | false =>
             rw [show keepB L p.out[k] = false by unfold keepB; rw [g1, g2]; rfl] at hst
             simp -implicitDefEqProofs only [rX,↓rY,ofConst,↓reduceIte,Nat.reduceEqDiff,Nat.reduceAdd,leE,leH,leB,leV,leVs,keepP,liveP,wfE,wfB,wfV,wfL,yA,g1,g2,hd,g_0,g_1,le_17,le_19]
             refine fun _ => ⟨hkk, hk', hkk, hk', by simp only [lo, hi]; omega, k + 1, ⟨by omega, by omega⟩, ?_⟩
             rw [hst]
             simp only [vV, if_false, vT]
             exact ⟨⟨by simp, trivial⟩, ⟨l_le, trivial⟩, l_wf⟩
          ·have hd : decide ((k : Int) < (p.out.length : Int)) = false := decide_eq_false (by omega)
           rw [yD hk']
           simp -implicitDefEqProofs only [rX,↓rY,cells?,splice,↓reduceIte,Nat.reduceEqDiff,Nat.reduceAdd,buildP,isC,Nat.reduceLeDiff,yC,yB,yA,hd]
           intro _
           generalize p.out.filter (keepB L) = Q
           have hQ : yF Q.length (Q.map Gift.enc) = Q.map Gift.enc := yD (by simp)
           rw [retP_eq]
           simp -implicitDefEqProofs only [rX,↓rY,↓reduceIte,Nat.reduceEqDiff,Nat.reduceAdd,resP,tupV,keepP,liveP,wfV,wfL,yB,yA]
           refine ⟨[.dead, .dead, .dead, .arr 3 (Q.map Gift.enc)], ⟨by simp [leH, leB], by simp [tupV, wfV, wfL, liveP], by simp [wfB]⟩, ?_⟩
           simp [Gv, tupV, gvV, gvL, wk, wkL, wkR, wfV, wfL, blk, hQ]
       ·have hk2i : (L.kind == 2) = false := by simpa using hk2
        have hrt : rightL L = false := by unfold rightL; rw [if_neg hk1, if_neg hk2]
        rw [hno (by rw [hrt]; simp)]
        rw [show ansL p L 0 = [] from if_pos rfl]
        simp -implicitDefEqProofs only [rX,↓rY,rdK,ofConst,cells?,splice,↓reduceIte,Nat.reduceEqDiff,Nat.reduceAdd,buildP,isC,Nat.reduceLeDiff,yC,yB,yA,hk1i,hk2i,le_16,le_17,le_19,le_20]
        refine ret_data ?_
        simp -implicitDefEqProofs only [rX,↓rY,↓reduceIte,Nat.reduceEqDiff,Nat.reduceAdd,resP,tupV,wfV,wfL,yB,yA]
        simp [Gv, tupV, gvV, gvL, wk, wkL, wkR, wfV, wfL]
end Go.Fx.O
namespace Go.Fx.O
open Go Go.Fx Go.Proofs Go.Fx.R
set_option maxRecDepth 20000
theorem ok49e (g : Gift) : Ok 49 [.agg g.enc, .agg g.enc] (Is (.b true)) := by
 refine ok_of lw49 (by simp) ?_
 unfold c49
 simp -implicitDefEqProofs only [rX,↓rY,ofConst,cells?,↓reduceIte,Nat.reduceEqDiff,Nat.reduceAdd,reduceCtorEq,freshP,resP,tupV,wfV,cxN,yA,args0,g_0,g_1,g_2,beq_self_eq_true]
 refine call_is (ok20 g.uses g.uses) ⟨⟨trivial, trivial, trivial⟩, ⟨rfl, rfl⟩, ⟨rfl, rfl⟩, trivial⟩ rfl trivial ?_
 simp -implicitDefEqProofs only [rX,↓rY,↓reduceIte,Nat.reduceEqDiff,resP,tupV,wfV,beq_self_eq_true]
theorem ok14e (p : Purse) : Ok 14 [.agg p.enc, .agg p.enc] (Is (.b true)) := by
 refine ok_of lw14 (by simp) ?_
 unfold c14
 simp -implicitDefEqProofs only [rX,↓rY,ofConst,cells?,↓reduceIte,Nat.reduceEqDiff,Nat.reduceAdd,reduceCtorEq,freshP,resP,tupV,wfV,Nat.reduceLeDiff,cxN,yB,yA,args0]
 refine Eq.mpr (eq_dig (d := p.id) (e := p.id)) ?_
 rw [show (p.id == p.id) = true from beq_self_eq_true _]
 simp -implicitDefEqProofs only [rX,↓rY,bne_self_eq_false]
 refine call_is (ok20 p.left p.left) ⟨⟨trivial, trivial, trivial⟩, ⟨rfl, rfl⟩, ⟨rfl, rfl⟩, trivial⟩ rfl trivial ?_
 simp -implicitDefEqProofs only [rX,↓rY,↓reduceIte,Nat.reduceEqDiff,beq_self_eq_true]
 refine call_is (ok20 p.spent p.spent) ⟨⟨trivial, trivial, trivial⟩, ⟨rfl, rfl⟩, ⟨rfl, rfl⟩, trivial⟩ rfl trivial ?_
 simp -implicitDefEqProofs only [rX,↓rY,ofConst,↓reduceIte,Nat.reduceEqDiff,Nat.reduceAdd,yA,beq_self_eq_true,bne_self_eq_false]
 intro hm1 _ hm2 _ hm3 _
 refine loopP_intro (fun k : Nat => ⟨[(5, .i k), (3, .ptr 1 0 0), (2, .ptr 0 0 0)], [.var p.enc, .var p.enc], 2⟩) (fun k => k ≤ p.sent.length) (fun k => p.sent.length - k) 0 (by omega) ?_ ?_
 ·simp -implicitDefEqProofs only [rX,↓reduceIte,Nat.reduceEqDiff,leE,leH,leB,leV,leVs,keepP,liveP,wfE,wfB,wfV,wfL,yE]
 rintro k hk
 unfold c14l0
 rcases yG k p.sent.length with hk' | hk'
 ·have hd : decide ((k : Int) < (p.sent.length : Int)) = true := decide_eq_true (by omega)
  have hkk : (0 : Int) ≤ k ∧ (k : Int) < p.sent.length := ⟨by omega, by omega⟩
  simp -implicitDefEqProofs only [rX,↓rY,ofConst,↓reduceIte,Nat.reduceEqDiff,Nat.reduceAdd,resP,tupV,leE,leH,leB,leV,leVs,keepP,liveP,wfE,wfB,wfV,wfL,enS_len,enS_take,eq_sp,yA,hd,beq_self_eq_true]
  exact fun _ => ⟨hkk, hk', hkk, hk', by simp only [lo, hi, maxLen] at *; omega, k + 1, ⟨by omega, by omega⟩, by simp⟩
 have hd : decide ((k : Int) < (p.sent.length : Int)) = false := decide_eq_false (by omega)
 simp -implicitDefEqProofs only [rX,↓rY,ofConst,↓reduceIte,Nat.reduceEqDiff,Nat.reduceAdd,yA,hd]
 intro _
 refine loopP_intro (fun k : Nat => ⟨[(6, .i k), (3, .ptr 1 0 0), (2, .ptr 0 0 0)], [.var p.enc, .var p.enc], 2⟩) (fun k => k ≤ p.heard.length) (fun k => p.heard.length - k) 0 (by omega) ?_ ?_
 ·simp -implicitDefEqProofs only [rX,↓reduceIte,Nat.reduceEqDiff,leE,leH,leB,leV,leVs,keepP,liveP,wfE,wfB,wfV,wfL,yE]
 clear hk hk' hd k
 rintro k hk
 unfold c14l1
 rcases yG k p.heard.length with hk' | hk'
 ·have hd : decide ((k : Int) < (p.heard.length : Int)) = true := decide_eq_true (by omega)
  have hkk : (0 : Int) ≤ k ∧ (k : Int) < p.heard.length := ⟨by omega, by omega⟩
  simp -implicitDefEqProofs only [rX,↓rY,ofConst,↓reduceIte,Nat.reduceEqDiff,Nat.reduceAdd,resP,tupV,leE,leH,leB,leV,leVs,keepP,liveP,wfE,wfB,wfV,wfL,enS_len,enS_take,eq_sp,yA,hd,beq_self_eq_true]
  exact fun _ => ⟨hkk, hk', hkk, hk', by simp only [lo, hi, maxLen] at *; omega, k + 1, ⟨by omega, by omega⟩, by simp⟩
 have hd : decide ((k : Int) < (p.heard.length : Int)) = false := decide_eq_false (by omega)
 simp -implicitDefEqProofs only [rX,↓rY,ofConst,↓reduceIte,Nat.reduceEqDiff,Nat.reduceAdd,yA,hd]
 intro _
 refine loopP_intro (fun k : Nat => ⟨[(7, .i k), (3, .ptr 1 0 0), (2, .ptr 0 0 0)], [.var p.enc, .var p.enc], 2⟩) (fun k => k ≤ p.out.length) (fun k => p.out.length - k) 0 (by omega) ?_ ?_
 ·simp -implicitDefEqProofs only [rX,↓reduceIte,Nat.reduceEqDiff,leE,leH,leB,leV,leVs,keepP,liveP,wfE,wfB,wfV,wfL,yE]
 clear hk hk' hd k
 rintro k hk
 unfold c14l2
 rcases yG k p.out.length with hk' | hk'
 ·have hd : decide ((k : Int) < (p.out.length : Int)) = true := decide_eq_true (by omega)
  have hkk : (0 : Int) ≤ k ∧ (k : Int) < p.out.length := ⟨by omega, by omega⟩
  simp -implicitDefEqProofs only [rX,↓rY,↓reduceIte,Nat.reduceEqDiff,Nat.reduceAdd,yA,hd,g_len,g_t]
  refine fun _ => ⟨hkk, hk', hkk, hk', ?_⟩
  refine call_is (ok49e p.out[k]) (by simp [lendsOk, lendOk, lends, lend, wkL, wk, wkR, Gift.enc]) rfl trivial ?_
  simp -implicitDefEqProofs only [rX,↓rY,ofConst,↓reduceIte,Nat.reduceEqDiff,Nat.reduceAdd,leE,leH,leB,leV,leVs,keepP,liveP,wfE,wfB,wfV,wfL,yA]
  exact ⟨by simp only [lo, hi, maxLen] at *; omega, k + 1, ⟨by omega, by omega⟩, by simp⟩
 have hd : decide ((k : Int) < (p.out.length : Int)) = false := decide_eq_false (by omega)
 simp -implicitDefEqProofs only [rX,↓rY,ofConst,↓reduceIte,Nat.reduceEqDiff,Nat.reduceAdd,resP,tupV,wfV,hd]
 exact fun _ => trivial
theorem ok15e (l : List Ltr) : Ok 15 [ltrs l, ltrs l] (Is (.b true)) := by
 refine ok_of lw15 (by simp) ?_
 unfold c15
 simp -implicitDefEqProofs only [rX,↓rY,ofConst,↓reduceIte,Nat.reduceEqDiff,reduceCtorEq,cxN,yA,args0,bne_self_eq_false]
 intro hm _
 refine loopP_intro (fun k : Nat => ⟨[(5, .i k), (0, ltrs l), (1, ltrs l)], [], 0⟩) (fun k => k ≤ l.length) (fun k => l.length - k) 0 (by omega) ?_ ?_
 ·simp -implicitDefEqProofs only [rX,↓reduceIte,Nat.reduceEqDiff,reduceCtorEq,leE,leH,keepP,wfE,wfB,wfV,yE]
 rintro k hk
 unfold c15l0
 rcases yG k l.length with hk' | hk'
 ·have hd : decide ((k : Int) < (l.length : Int)) = true := decide_eq_true (by omega)
  have hkk : (0 : Int) ≤ k ∧ (k : Int) < l.length := ⟨by omega, by omega⟩
  simp -implicitDefEqProofs only [rX,↓rY,ofConst,cells?,splice,↓reduceIte,Nat.reduceEqDiff,Nat.reduceAdd,reduceCtorEq,freshP,resP,tupV,wfV,Nat.reduceLeDiff,zc21,yC,yA,hd,bne_self_eq_false,l_len,l_C,l_t,le_16,le_17,le_18,le_19,le_20]
  refine fun _ => ⟨hkk, hk', hkk, hk', ?_⟩
  refine Eq.mpr (eq_dig (d := l[k].id) (e := l[k].id)) ?_
  rw [show (l[k].id == l[k].id) = true from beq_self_eq_true _]
  simp -implicitDefEqProofs only [rX,↓rY]
  refine call_is (ok20 l[k].uses l[k].uses) ⟨⟨trivial, trivial, trivial⟩, ⟨rfl, rfl⟩, ⟨rfl, rfl⟩, trivial⟩ rfl trivial ?_
  simp -implicitDefEqProofs only [rX,↓rY,ofConst,↓reduceIte,Nat.reduceEqDiff,Nat.reduceAdd,reduceCtorEq,leE,leH,keepP,wfE,wfB,wfV,yA,beq_self_eq_true]
  exact ⟨by simp only [lo, hi, maxLen] at *; omega, k + 1, ⟨by omega, by omega⟩, by simp⟩
 have hd : decide ((k : Int) < (l.length : Int)) = false := decide_eq_false (by omega)
 simp -implicitDefEqProofs only [rX,↓rY,ofConst,↓reduceIte,Nat.reduceEqDiff,reduceCtorEq,resP,tupV,wfV,hd]
 exact fun _ => trivial
def fewB (p : Purse) : Bool := (decide (p.sent.length ≤ 20) && decide (p.heard.length ≤ 20) && decide (p.out.length ≤ 70) && decide (p.left.length ≤ 30) && decide (p.spent.length ≤ 30)) && p.out.all fun g => decide (g.uses.length ≤ 30)
theorem ok7 (p : Purse) : Ok 7 [.agg p.enc] (Is (.b (fewB p))) := by
 refine ok_of lw7 (by simp) ?_
 unfold c7
 simp -implicitDefEqProofs only [rX,↓rY,ofConst,cells?,↓reduceIte,Nat.reduceEqDiff,freshP,resP,tupV,wfV,cxN,yA,args0]
 have hno : (decide (p.sent.length ≤ 20) && decide (p.heard.length ≤ 20) && decide (p.out.length ≤ 70) && decide (p.left.length ≤ 30) && decide (p.spent.length ≤ 30)) = false → fewB p = false := fun h => by unfold fewB; rw [h]; rfl
 have gt : ∀ (a b : Nat), decide ((b : Int) < (a : Int)) = !decide (a ≤ b) := fun a b => by
  by_cases h : a ≤ b
  ·rw [decide_eq_true h, decide_eq_false (by omega)]; rfl
  ·rw [decide_eq_false h, decide_eq_true (by omega)]; rfl
 have g1 := gt p.sent.length 20
 have g2 := gt p.heard.length 20
 have g3 := gt p.out.length 70
 have g4 := gt p.left.length 30
 have g5 := gt p.spent.length 30
 simp only [vZ] at g1 g2 g3 g4 g5
 cases h1 : decide (p.sent.length ≤ 20) with
 | false => rw [h1] at g1; rw [hno (by rw [h1]; rfl)]; simp -implicitDefEqProofs only [rX,↓rY,g1]; simp
 | true =>
 rw [h1] at g1
 cases h2 : decide (p.heard.length ≤ 20) with
 | false => rw [h2] at g2; rw [hno (by rw [h1, h2]; rfl)]; simp -implicitDefEqProofs only [rX,↓rY,g1,g2]; simp
 | true =>
 rw [h2] at g2
 cases h3 : decide (p.out.length ≤ 70) with
 | false => rw [h3] at g3; rw [hno (by rw [h1, h2, h3]; rfl)]; simp -implicitDefEqProofs only [rX,↓rY,g1,g2,g3]; simp
 | true =>
 rw [h3] at g3
 cases h4 : decide (p.left.length ≤ 30) with
 | false => rw [h4] at g4; rw [hno (by rw [h1, h2, h3, h4]; rfl)]; simp -implicitDefEqProofs only [rX,↓rY,g1,g2,g3,g4]; simp
 | true =>
 rw [h4] at g4
 cases h5 : decide (p.spent.length ≤ 30) with
 | false => rw [h5] at g5; rw [hno (by rw [h1, h2, h3, h4, h5]; rfl)]; simp -implicitDefEqProofs only [rX,↓rY,g1,g2,g3,g4,g5]; simp
 | true =>
 rw [h5] at g5
 have hf : fewB p = p.out.all fun g => decide (g.uses.length ≤ 30) := by unfold fewB; rw [h1, h2, h3, h4, h5]; rfl
 rw [hf]
 simp -implicitDefEqProofs only [rX,↓rY,g1,g2,g3,g4,g5]
 intro _ _ _ _ _
 refine loopP_intro (fun k : Nat => ⟨[(3, .i k), (1, .ptr 0 0 0)], [.var p.enc], 1⟩) (fun k => k ≤ p.out.length ∧ (p.out.take k).all (fun g => decide (g.uses.length ≤ 30)) = true) (fun k => p.out.length - k) 0 ⟨by omega, rfl⟩ ?_ ?_
 ·simp -implicitDefEqProofs only [rX,↓reduceIte,Nat.reduceEqDiff,leE,leH,leB,leV,leVs,keepP,liveP,wfE,wfB,wfV,wfL,yE]
 rintro k ⟨hk, hv⟩
 unfold c7l0
 rcases yG k p.out.length with hk' | hk'
 ·have hd : decide ((k : Int) < (p.out.length : Int)) = true := decide_eq_true (by omega)
  have hkk : (0 : Int) ≤ k ∧ (k : Int) < p.out.length := ⟨by omega, by omega⟩
  have g6 := gt p.out[k].uses.length 30
  simp only [vZ] at g6
  cases h6 : decide (p.out[k].uses.length ≤ 30) with
  | false =>
   rw [h6] at g6
   simp -implicitDefEqProofs only [rX,↓rY,ofConst,↓reduceIte,Nat.reduceEqDiff,resP,tupV,leE,leH,leB,leV,leVs,keepP,liveP,wfE,wfB,wfV,wfL,yA,hd,g6,g_2]
   refine fun _ => ⟨hkk, hk', fun _ => ?_⟩
   rw [eq_comm, List.all_eq_false]
   exact ⟨_, yH hk', by rw [h6]; simp⟩
  | true =>
   rw [h6] at g6
   simp -implicitDefEqProofs only [rX,↓rY,ofConst,↓reduceIte,Nat.reduceEqDiff,resP,tupV,leE,leH,leB,leV,leVs,keepP,liveP,wfE,wfB,wfV,wfL,yA,hd,g6,g_2]
   refine fun _ => ⟨hkk, hk', fun _ => ⟨by simp only [lo, hi, maxLen] at *; omega, k + 1, ⟨⟨by omega, ?_⟩, by omega⟩, by simp⟩⟩
   rw [yJ, yK hk', List.all_append, hv]
   simpa using h6
 have hd : decide ((k : Int) < (p.out.length : Int)) = false := decide_eq_false (by omega)
 rw [yD hk'] at hv
 rw [hv]
 simp -implicitDefEqProofs only [rX,↓rY,ofConst,↓reduceIte,Nat.reduceEqDiff,resP,tupV,wfV,hd]
 exact fun _ => trivial
end Go.Fx.O
namespace Go.Fx.O
open Go Go.Fx Go.Proofs Go.Fx.R
set_option maxRecDepth 20000
def selG (p q : Purse) (g : Gift) : Bool := (g.to == q.me) && decide (markOf q.heard p.me < g.serial)
def flyStep (p q : Purse) (a : List Sp × Bool) (g : Gift) : List Sp × Bool := if selG p q g then (bothS a.1 g.uses, a.2 && decide ((meetS a.1 g.uses).length = 0)) else a
def flyF (p q : Purse) (l : List Gift) : List Sp × Bool := l.foldl (flyStep p q) ([], true)
def flyP (p q : Purse) : List Sp × Bool := if (!(p.id == q.id) || p.me == q.me) = true then ([], true) else flyF p q p.out
theorem flyF_step {p q : Purse} {l : List Gift} {k : Nat} (hk : k < l.length) : flyF p q (l.take (k + 1)) = flyStep p q (flyF p q (l.take k)) l[k] := by
 unfold flyF
 rw [yJ, yK hk, vD]
 rfl
theorem flyF_vd {p q : Purse} : ∀ {l : List Gift}, (∀ g ∈ l, Vd g.uses) → ∀ {a : List Sp × Bool}, Vd a.1 → Vd (l.foldl (flyStep p q) a).1
 | [], _, _, ha => ha
 | g :: l, h, a, ha => by
  rw [yX]
  refine flyF_vd (fun t ht => h t (by simp [ht])) ?_
  unfold flyStep
  split
  ·exact ha.both (h g (by simp)).2
  ·exact ha
theorem p_le {p : Purse} : leVs p.enc p.enc := by simp [leVs, leV]
theorem ok55 (p q : Purse) (hu : ∀ g ∈ p.out, Vd g.uses) (hm : Mks q.heard) (hml : q.heard.length ≤ 1000000) : Ok 55 [.agg p.enc, .agg q.enc] (Is (.tup [spans (flyP p q).1, .b (flyP p q).2])) := by
 refine okN_gv ?_
 refine ok_of lw55 (by simp) ?_
 unfold c55
 simp -implicitDefEqProofs only [rX,↓rY,ofConst,cells?,↓reduceIte,Nat.reduceEqDiff,Nat.reduceAdd,reduceCtorEq,freshP,Nat.reduceLeDiff,cxN,yB,yA,args0]
 refine Eq.mpr (eq_dig (d := p.id) (e := q.id)) ?_
 cases h1 : p.id == q.id with
 | false =>
  rw [show flyP p q = ([], true) by unfold flyP; rw [h1]; rfl]
  simp -implicitDefEqProofs only [rX,↓rY]
  refine ret_data ?_
  simp -implicitDefEqProofs only [rX,↓reduceIte,Nat.reduceEqDiff,resP,tupV,wfV,wfL,yA]
  simp [Gv, tupV, gvV, gvL, wk, wkL, wkR, wfV, wfL]
 | true =>
  cases h2 : p.me == q.me with
  | true =>
   rw [show flyP p q = ([], true) by unfold flyP; rw [h1, h2]; rfl]
   simp -implicitDefEqProofs only [rX,↓rY]
   refine ret_data ?_
   simp -implicitDefEqProofs only [rX,↓reduceIte,Nat.reduceEqDiff,resP,tupV,wfV,wfL,yA]
   simp [Gv, tupV, gvV, gvL, wk, wkL, wkR, wfV, wfL]
  | false =>
   rw [show flyP p q = flyF p q p.out by unfold flyP; rw [h1, h2]; rfl]
   simp -implicitDefEqProofs only [rX,↓rY]
   refine call_is (ok40 q.heard p.me hm hml) ⟨⟨trivial, trivial, trivial⟩, ⟨rfl, rfl⟩, rfl, trivial⟩ rfl trivial ?_
   simp -implicitDefEqProofs only [rX,↓rY,ofConst,↓reduceIte,Nat.reduceEqDiff,Nat.reduceAdd]
   intro hmx
   refine loopP_ghost (.virt 1 2 (by decide) (.nilE 4 2 rfl (.give (fun j => j == 2) (by simp) (.refl _)))) (fun k : Nat => ⟨[(29, .i k), (28, .i p.out.length), (27, gifts p.out), (6, .i (markOf q.heard p.me)), (5, .b (flyF p q (p.out.take k)).2), (4, spans (flyF p q (p.out.take k)).1), (3, .ptr 1 0 0), (2, .ptr 0 0 0)], [.var p.enc, .var q.enc], 2⟩) (fun k => k ≤ p.out.length) (fun k => p.out.length - k) 0 (by omega) ?_ ?_
   ·simp -implicitDefEqProofs only [rX,↓reduceIte,Nat.reduceEqDiff,Nat.reduceAdd,leE,leH,leB,keepP,liveP,wfE,wfB,wfV,wfL,yE,yL,St.give,gvE,gvV,gvL,gvH,gvB,flyF,vA]
    exact ⟨⟨rfl, rfl, rfl⟩, p_le, p_le⟩
   rintro k hk
   have hvd : Vd (flyF p q (p.out.take k)).1 := flyF_vd (fun g hg => hu g (vI hg)) vd_nil
   unfold c55l0
   rcases yG k p.out.length with hk' | hk'
   ·have hd : decide ((k : Int) < (p.out.length : Int)) = true := decide_eq_true (by omega)
    have hkk : (0 : Int) ≤ k ∧ (k : Int) < p.out.length := ⟨by omega, by omega⟩
    have hug := hu _ (yH hk')
    have hst := flyF_step (p := p) (q := q) hk'
    cases g1 : p.out[k].to == q.me with
    | false =>
     rw [show flyStep p q (flyF p q (p.out.take k)) p.out[k] = flyF p q (p.out.take k) by unfold flyStep selG; rw [g1]; rfl] at hst
     simp -implicitDefEqProofs only [rX,↓rY,ofConst,cells?,splice,↓reduceIte,Nat.reduceEqDiff,Nat.reduceAdd,freshP,leE,leH,leB,leV,leVs,keepP,liveP,wfE,wfB,wfV,wfL,yC,yA,hd,g1,g_len,g_0,g_1,g_2,g_C,g_t]
     exact ⟨hkk, hk', by simp only [lo, hi, maxLen] at *; omega, k + 1, ⟨by omega, by omega⟩, by simp, by rw [hst], by rw [hst]⟩
    | true =>
     cases g2 : decide (markOf q.heard p.me < p.out[k].serial) with
     | false =>
      rw [show flyStep p q (flyF p q (p.out.take k)) p.out[k] = flyF p q (p.out.take k) by unfold flyStep selG; rw [g1, g2]; rfl] at hst
      simp -implicitDefEqProofs only [rX,↓rY,ofConst,cells?,splice,↓reduceIte,Nat.reduceEqDiff,Nat.reduceAdd,freshP,leE,leH,leB,leV,leVs,keepP,liveP,wfE,wfB,wfV,wfL,yC,yA,hd,g1,g2,g_len,g_0,g_1,g_2,g_C,g_t]
      exact ⟨hkk, hk', by simp only [lo, hi, maxLen] at *; omega, k + 1, ⟨by omega, by omega⟩, by simp, by rw [hst], by rw [hst]⟩
     | true =>
      rw [show flyStep p q (flyF p q (p.out.take k)) p.out[k] = (bothS (flyF p q (p.out.take k)).1 p.out[k].uses, (flyF p q (p.out.take k)).2 && decide ((meetS (flyF p q (p.out.take k)).1 p.out[k].uses).length = 0)) by unfold flyStep selG; rw [g1, g2]; rfl] at hst
      cases g3 : (flyF p q (p.out.take k)).2 with
      | false =>
       rw [g3] at hst
       simp -implicitDefEqProofs only [rX,↓rY,ofConst,cells?,splice,↓reduceIte,Nat.reduceEqDiff,Nat.reduceAdd,freshP,leE,leH,leB,leV,leVs,keepP,liveP,wfE,wfB,wfV,wfL,yC,yA,hd,g1,g2,g_len,g_0,g_1,g_2,g_C,g_t]
       refine ⟨hkk, hk', ?_⟩
       refine call_is (ok39 _ p.out[k].uses hvd hug.2) ⟨⟨trivial, trivial, trivial⟩, ⟨rfl, rfl⟩, ⟨rfl, rfl⟩, trivial⟩ rfl trivial ?_
       simp -implicitDefEqProofs only [rX,↓rY,ofConst,↓reduceIte,Nat.reduceEqDiff,Nat.reduceAdd,leE,leH,leB,leV,leVs,keepP,liveP,wfE,wfB,wfV,wfL,yA]
       exact ⟨by simp only [lo, hi, maxLen] at *; omega, k + 1, ⟨by omega, by omega⟩, by simp, by rw [hst]; rfl, by rw [hst]⟩
      | true =>
       rw [g3] at hst
       simp -implicitDefEqProofs only [rX,↓rY,ofConst,cells?,splice,↓reduceIte,Nat.reduceEqDiff,Nat.reduceAdd,freshP,leE,leH,leB,leV,leVs,keepP,liveP,wfE,wfB,wfV,wfL,yC,yA,hd,g1,g2,g_len,g_0,g_1,g_2,g_C,g_t]
       refine ⟨hkk, hk', ?_⟩
       refine call_is (ok57 _ p.out[k].uses hvd hug) ⟨⟨trivial, trivial, trivial⟩, ⟨rfl, rfl⟩, ⟨rfl, rfl⟩, trivial⟩ rfl trivial ?_
       simp -implicitDefEqProofs only [rX,↓rY,↓reduceIte,Nat.reduceEqDiff,Nat.reduceAdd,g_2]
       refine call_is (ok39 _ p.out[k].uses hvd hug.2) ⟨⟨trivial, trivial, trivial⟩, ⟨rfl, rfl⟩, ⟨rfl, rfl⟩, trivial⟩ rfl trivial ?_
       simp -implicitDefEqProofs only [rX,↓rY,ofConst,↓reduceIte,Nat.reduceEqDiff,Nat.reduceAdd,leE,leH,leB,leV,leVs,keepP,liveP,wfE,wfB,wfV,wfL,yA]
       exact ⟨by simp only [lo, hi, maxLen] at *; omega, k + 1, ⟨by omega, by omega⟩, by simp, by rw [hst]; rfl, by rw [hst]⟩
   ·have hd : decide ((k : Int) < (p.out.length : Int)) = false := decide_eq_false (by omega)
    rw [yD hk'] at *
    simp -implicitDefEqProofs only [rX,↓rY,↓reduceIte,Nat.reduceEqDiff,Nat.reduceAdd,yA,hd]
    refine ret_data ?_
    simp -implicitDefEqProofs only [rX,↓reduceIte,Nat.reduceEqDiff,resP,tupV,wfV,wfL,yA]
    simp [Gv, tupV, gvV, gvL, wk, wkL, wkR, wfV, wfL]
theorem ok21 (p q : Purse) (hu : ∀ g ∈ p.out, Vd g.uses) (hm : Mks q.heard) (hml : q.heard.length ≤ 1000000) : Ok 21 [.agg p.enc, .agg q.enc] (Is (spans (flyP p q).1)) := by
 refine ok_of lw21 (by simp) ?_
 unfold c21
 simp -implicitDefEqProofs only [rX,↓rY,ofConst,cells?,↓reduceIte,Nat.reduceEqDiff,Nat.reduceAdd,reduceCtorEq,freshP,cxN,yB,yA,args0]
 refine call_is (ok55 p q hu hm hml) (by simp [lendsOk, lendOk, lends, lend, wkL, wk, wkR]) rfl trivial ?_
 simp -implicitDefEqProofs only [rX,↓rY,↓reduceIte,Nat.reduceEqDiff,Nat.reduceAdd,resP,tupV,wfV]
theorem ok22 (p q : Purse) (hu : ∀ g ∈ p.out, Vd g.uses) : Ok 22 [.agg p.enc, .agg q.enc] (Is (spans (flyP p q).1)) := by
 refine okN_gv ?_
 refine ok_of lw22 (by simp) ?_
 unfold c22
 simp -implicitDefEqProofs only [rX,↓rY,ofConst,cells?,↓reduceIte,Nat.reduceEqDiff,Nat.reduceAdd,reduceCtorEq,freshP,Nat.reduceLeDiff,cxN,yB,yA,args0]
 refine Eq.mpr (eq_dig (d := p.id) (e := q.id)) ?_
 cases h1 : p.id == q.id with
 | false =>
  rw [show flyP p q = ([], true) by unfold flyP; rw [h1]; rfl]
  simp -implicitDefEqProofs only [rX,↓rY]
  exact ret_nil rfl
 | true =>
  cases h2 : p.me == q.me with
  | true =>
   rw [show flyP p q = ([], true) by unfold flyP; rw [h1, h2]; rfl]
   simp -implicitDefEqProofs only [rX,↓rY]
   exact ret_nil rfl
  | false =>
   rw [show flyP p q = flyF p q p.out by unfold flyP; rw [h1, h2]; rfl]
   simp -implicitDefEqProofs only [rX,↓rY]
   refine loopP_ghost (.virt 1 2 (by decide) (.nilE 5 2 rfl (.give (fun j => j == 2) (by simp) (.refl _)))) (fun k : Nat => ⟨[(6, .i k), (5, spans (flyF p q (p.out.take k)).1), (3, .ptr 1 0 0), (2, .ptr 0 0 0)], [.var p.enc, .var q.enc], 2⟩) (fun k => k ≤ p.out.length) (fun k => p.out.length - k) 0 (by omega) ?_ ?_
   ·simp -implicitDefEqProofs only [rX,↓reduceIte,Nat.reduceEqDiff,Nat.reduceAdd,leE,leH,leB,keepP,liveP,wfE,wfB,wfV,wfL,yE,yL,St.give,gvE,gvV,gvL,gvH,gvB,flyF,vA]
    exact ⟨⟨rfl, rfl, rfl⟩, p_le, p_le⟩
   rintro k hk
   have hvd : Vd (flyF p q (p.out.take k)).1 := flyF_vd (fun g hg => hu g (vI hg)) vd_nil
   unfold c22l0
   rcases yG k p.out.length with hk' | hk'
   ·have hd : decide ((k : Int) < (p.out.length : Int)) = true := decide_eq_true (by omega)
    have hkk : (0 : Int) ≤ k ∧ (k : Int) < p.out.length := ⟨by omega, by omega⟩
    have hug := hu _ (yH hk')
    have hst := flyF_step (p := p) (q := q) hk'
    cases g1 : p.out[k].to == q.me with
    | false =>
     rw [show flyStep p q (flyF p q (p.out.take k)) p.out[k] = flyF p q (p.out.take k) by unfold flyStep selG; rw [g1]; rfl] at hst
     simp -implicitDefEqProofs only [rX,↓rY,rdK,ofConst,↓reduceIte,Nat.reduceEqDiff,Nat.reduceAdd,leE,leH,leB,leV,leVs,keepP,liveP,wfE,wfB,wfV,wfL,yA,hd,g1,g_0]
     exact fun _ => ⟨hkk, hk', by simp only [lo, hi, maxLen] at *; omega, k + 1, ⟨by omega, by omega⟩, by simp, by rw [hst]⟩
    | true =>
     simp -implicitDefEqProofs only [rX,↓rY,rdK,↓reduceIte,Nat.reduceEqDiff,Nat.reduceAdd,yA,hd,g1,g_0,g_1]
     refine fun _ => ⟨hkk, hk', hkk, hk', ?_⟩
     refine call_is (ok36 q.heard p.me) ⟨⟨trivial, trivial, trivial⟩, ⟨rfl, rfl⟩, rfl, trivial⟩ rfl trivial ?_
     cases g2 : decide (markOf q.heard p.me < p.out[k].serial) with
     | false =>
      rw [show flyStep p q (flyF p q (p.out.take k)) p.out[k] = flyF p q (p.out.take k) by unfold flyStep selG; rw [g1, g2]; rfl] at hst
      simp -implicitDefEqProofs only [rX,↓rY,ofConst,↓reduceIte,Nat.reduceEqDiff,Nat.reduceAdd,leE,leH,leB,leV,leVs,keepP,liveP,wfE,wfB,wfV,wfL,yA,g2]
      exact ⟨by simp only [lo, hi, maxLen] at *; omega, k + 1, ⟨by omega, by omega⟩, by simp, by rw [hst]⟩
     | true =>
      rw [show flyStep p q (flyF p q (p.out.take k)) p.out[k] = (bothS (flyF p q (p.out.take k)).1 p.out[k].uses, (flyF p q (p.out.take k)).2 && decide ((meetS (flyF p q (p.out.take k)).1 p.out[k].uses).length = 0)) by unfold flyStep selG; rw [g1, g2]; rfl] at hst
      simp -implicitDefEqProofs only [rX,↓rY,↓reduceIte,Nat.reduceEqDiff,Nat.reduceAdd,yA,g2,g_2]
      refine ⟨hkk, hk', ?_⟩
      refine call_is (ok47 _ p.out[k].uses hvd hug.2) ⟨⟨trivial, trivial, trivial⟩, ⟨rfl, rfl⟩, ⟨rfl, rfl⟩, trivial⟩ rfl trivial ?_
      simp -implicitDefEqProofs only [rX,↓rY,ofConst,↓reduceIte,Nat.reduceEqDiff,Nat.reduceAdd,leE,leH,leB,leV,leVs,keepP,liveP,wfE,wfB,wfV,wfL,yA]
      exact ⟨by simp only [lo, hi, maxLen] at *; omega, k + 1, ⟨by omega, by omega⟩, by simp, by rw [hst]⟩
   ·have hd : decide ((k : Int) < (p.out.length : Int)) = false := decide_eq_false (by omega)
    rw [yD hk'] at *
    simp -implicitDefEqProofs only [rX,↓rY,↓reduceIte,Nat.reduceEqDiff,Nat.reduceAdd,yA,hd]
    intro _
    exact ret_ro rfl
end Go.Fx.O
namespace Go.Fx.O
open Go Go.Fx Go.Proofs Go.Fx.R
set_option maxRecDepth 20000
abbrev purses (l : List Purse) : V := .ro 22 (l.map Purse.enc)
def putS (a : List Sp × Bool) (l : List Sp) : List Sp × Bool := (bothS a.1 l, a.2 && decide ((meetS a.1 l).length = 0))
def kq (p : Purse) (a : List Sp × Bool) (q : Purse) : List Sp × Bool := putS (a.1, a.2 && (flyP p q).2) (flyP p q).1
def kp (all : List Purse) (a : List Sp × Bool) (p : Purse) : List Sp × Bool := all.foldl (kq p) (putS (putS a p.left) p.spent)
def knownF (all : List Purse) : List Sp × Bool := all.foldl (kp all) ([], true)
theorem ok56 (l : List Sp) (a : List Sp × Bool) (hl : Vd l) (ha : Vd a.1) : OkN Tryz.prog 56 [spans l, .ptr 0 0 0, .ptr 1 0 0] [.var [.b a.2], .var [spans a.1]] [] (IsA (.tup []) [.var [.b (putS a l).2], .var [spans (putS a l).1]]) := by
 refine okN_of pol [0, 1] lw56 (by simp) ⟨trivial, trivial, trivial⟩ (by simp; omega) ?_
 unfold c56
 cases h : a.2 with
 | true =>
  simp -implicitDefEqProofs only [rX,↓rY,↓reduceIte,Nat.reduceEqDiff,Nat.reduceAdd,reduceCtorEq,cxN,args0]
  refine call_is (ok57 a.1 l ha hl) ⟨⟨trivial, trivial, trivial⟩, ⟨rfl, rfl⟩, ⟨rfl, rfl⟩, trivial⟩ rfl (by simp [keepP, liveP]) ?_
  simp -implicitDefEqProofs only [rX,↓rY,cells?,splice,↓reduceIte,Nat.reduceEqDiff,Nat.reduceAdd,reduceCtorEq,isC,yC,yA]
  refine call_is (ok39 a.1 l ha hl.2) ⟨⟨trivial, trivial, trivial⟩, ⟨rfl, rfl⟩, ⟨rfl, rfl⟩, trivial⟩ rfl (by simp [keepP, liveP]) ?_
  simp -implicitDefEqProofs only [rX,↓rY,cells?,splice,↓reduceIte,Nat.reduceEqDiff,Nat.reduceAdd,reduceCtorEq,resP,tupV,leH,leB,leV,leVs,keepP,liveP,wfB,wfV,wfL,isC,yC,yA,retP_isA,putS,h]
 | false =>
  simp -implicitDefEqProofs only [rX,↓rY,ofConst,cells?,splice,↓reduceIte,Nat.reduceEqDiff,Nat.reduceAdd,reduceCtorEq,isC,cxN,yC,yA,args0]
  refine call_is (ok39 a.1 l ha hl.2) ⟨⟨trivial, trivial, trivial⟩, ⟨rfl, rfl⟩, ⟨rfl, rfl⟩, trivial⟩ rfl (by simp [keepP, liveP]) ?_
  simp -implicitDefEqProofs only [rX,↓rY,cells?,splice,↓reduceIte,Nat.reduceEqDiff,Nat.reduceAdd,reduceCtorEq,resP,tupV,leH,leB,leV,leVs,keepP,liveP,wfB,wfV,wfL,isC,yC,yA,retP_isA,putS,h]
  rfl
structure PurV (p : Purse) : Prop where
 l : Vd p.left
 s : Vd p.spent
 u : ∀ g ∈ p.out, Vd g.uses
 m : Mks p.heard
 n : p.heard.length ≤ 1000000
theorem PurV.fly {p q : Purse} (hp : PurV p) : Vd (flyP p q).1 := by
 unfold flyP
 split
 ·exact vd_nil
 ·exact flyF_vd hp.u vd_nil
theorem putS_vd {a : List Sp × Bool} {l : List Sp} (ha : Vd a.1) (hl : Vd l) : Vd (putS a l).1 := ha.both hl.2
theorem kq_vd {p : Purse} (hp : PurV p) : ∀ {l : List Purse} {a : List Sp × Bool}, Vd a.1 → Vd (l.foldl (kq p) a).1
 | [], _, h => h
 | q :: l, a, h => by
  rw [yX]
  exact kq_vd hp (putS_vd (a := (a.1, a.2 && (flyP p q).2)) h hp.fly)
theorem kp_vd {all : List Purse} : ∀ {l : List Purse} (_ : ∀ p ∈ l, PurV p) {a : List Sp × Bool}, Vd a.1 → Vd (l.foldl (kp all) a).1
 | [], _, _, h => h
 | p :: l, hp, a, h => by
  rw [yX]
  have hpp := hp p (by simp)
  exact kp_vd (fun q hq => hp q (by simp [hq])) (kq_vd hpp (putS_vd (putS_vd h hpp.l) hpp.s))
theorem foldl_take {α β : Type} {f : β → α → β} {b : β} {l : List α} {k : Nat} (h : k < l.length) : (l.take (k + 1)).foldl f b = f ((l.take k).foldl f b) l[k] := by
 rw [yJ, yK h, vD]; rfl
theorem r_sp {f : Nat → Option Nat} {l : List Sp} : rens f [spans l] = [spans l] := rfl
theorem r_b {f : Nat → Option Nat} {x : Bool} : rens f [.b x] = [.b x] := rfl
theorem ok25 (all : List Purse) (hv : ∀ p ∈ all, PurV p) : Ok 25 [purses all] (Is (.tup [spans (knownF all).1, .b (knownF all).2])) := by
 refine okN_gv ?_
 refine ok_of lw25 (by simp) ?_
 unfold c25
 simp -implicitDefEqProofs only [rX,↓rY,ofConst,cells?,splice,↓reduceIte,Nat.reduceEqDiff,Nat.reduceAdd,reduceCtorEq,freshP,isC,cxN,yC,yA,args0]
 intro hm
 refine loopP_ghost (.virt 1 2 (by decide) (.nilB 0 [.nil] [.sl 2 0 0] rfl ⟨rfl, fun i x y h1 h2 => by
  cases i with
  | zero => simp at h1 h2; subst h1 h2; exact .inr ⟨rfl, 2, rfl⟩
  | succ i => simp at h1⟩ (.give (fun j => j == 2) (by simp) (.refl _)))) (fun k : Nat => ⟨[(16, .i k), (15, .i all.length), (14, purses all), (6, .clo 56 [.ptr 1 0 0, .ptr 0 0 0]), (5, .ptr 1 0 0), (4, .ptr 0 0 0), (0, purses all)], [.var [spans ((all.take k).foldl (kp all) ([], true)).1], .var [.b ((all.take k).foldl (kp all) ([], true)).2]], 2⟩) (fun k => k ≤ all.length) (fun k => all.length - k) 0 (by omega) ?_ ?_
 ·simp -implicitDefEqProofs only [rX,↓reduceIte,Nat.reduceEqDiff,Nat.reduceAdd,reduceCtorEq,leE,leH,leB,keepP,liveP,wfE,wfB,wfV,wfL,yE,yL,St.give,gvE,gvV,gvL,gvH,gvB,vA]
  exact ⟨⟨rfl, rfl, rfl⟩, ⟨rfl, trivial⟩, rfl, trivial⟩
 rintro k hk
 have hvd : Vd ((all.take k).foldl (kp all) ([], true)).1 := kp_vd (fun g hg => hv g (vI hg)) vd_nil
 unfold c25l0
 rcases yG k all.length with hk' | hk'
 ·have hd : decide ((k : Int) < (all.length : Int)) = true := decide_eq_true (by omega)
  have hkk : (0 : Int) ≤ k ∧ (k : Int) < all.length := ⟨by omega, by omega⟩
  have hpk := hv _ (yH hk')
  have hst := foldl_take (f := kp all) (b := (([], true) : List Sp × Bool)) hk'
  generalize (all.take k).foldl (kp all) ([], true) = a at hvd hst ⊢
  simp -implicitDefEqProofs only [rX,↓rY,ofConst,cells?,splice,↓reduceIte,Nat.reduceEqDiff,Nat.reduceAdd,freshP,isC,zc22,yC,yB,yA,hd]
  refine ⟨hkk, hk', ?_⟩
  refine call_isN [1, 0] [spans all[k].left, .ptr 0 0 0, .ptr 1 0 0] (.tup []) (.tup []) [.var [.b a.2], .var [spans a.1]] [.var [.b (putS a all[k].left).2], .var [spans (putS a all[k].left).1]] _ (ok56 all[k].left a hpk.l hvd) ⟨by simp, by simp⟩ rfl ?_ (by simp) rfl rfl ?_ ?_
  ·simp [lendsOk, lendOk, lends, lend, wkL, wk, wkR, pos]
  ·trivial
  simp -implicitDefEqProofs only [rX,↓rY,↓reduceIte,Nat.reduceEqDiff,Nat.reduceAdd,setAll,renB,r_sp,r_b]
  have hvd1 := putS_vd hvd hpk.l
  generalize ha1 : putS a all[k].left = a1 at hvd1 ⊢
  refine call_isN [1, 0] [spans all[k].spent, .ptr 0 0 0, .ptr 1 0 0] (.tup []) (.tup []) [.var [.b a1.2], .var [spans a1.1]] [.var [.b (putS a1 all[k].spent).2], .var [spans (putS a1 all[k].spent).1]] _ (ok56 all[k].spent a1 hpk.s hvd1) ⟨by simp, by simp⟩ rfl ?_ (by simp) rfl rfl ?_ ?_
  ·simp [lendsOk, lendOk, lends, lend, wkL, wk, wkR, pos]
  ·trivial
  simp -implicitDefEqProofs only [rX,↓rY,ofConst,↓reduceIte,Nat.reduceAdd,reduceCtorEq,setAll,renB,r_sp,r_b]
  have hvd2 := putS_vd hvd1 hpk.s
  generalize ha2 : putS a1 all[k].spent = a2 at hvd2 ⊢
  have hkp : kp all a all[k] = all.foldl (kq all[k]) a2 := by unfold kp; rw [ha1, ha2]
  intro hm2
  refine loopP_intro (fun j : Nat => ⟨[(30, .i j), (29, .i all.length), (28, purses all), (8, .ptr 2 0 0), (17, V.b true), (16, V.i ↑k), (15, V.i ↑all.length), (14, purses all), (6, V.clo 56 [V.ptr 1 0 0, V.ptr 0 0 0]), (5, V.ptr 1 0 0), (4, V.ptr 0 0 0), (0, purses all)], [.var [spans ((all.take j).foldl (kq all[k]) a2).1], .var [.b ((all.take j).foldl (kq all[k]) a2).2], .var all[k].enc], 3⟩) (fun j => j ≤ all.length) (fun j => all.length - j) 0 (by omega) ?_ ?_
  ·simp -implicitDefEqProofs only [rX,↓reduceIte,Nat.reduceEqDiff,reduceCtorEq,leE,leH,leB,leV,leVs,keepP,liveP,wfE,wfB,wfV,wfL,yE,vA]
  rintro j hj
  have hvj : Vd ((all.take j).foldl (kq all[k]) a2).1 := kq_vd hpk hvd2
  unfold c25l1
  rcases yG j all.length with hj' | hj'
  ·have hd2 : decide ((j : Int) < (all.length : Int)) = true := decide_eq_true (by omega)
   have hjj : (0 : Int) ≤ j ∧ (j : Int) < all.length := ⟨by omega, by omega⟩
   have hpj := hv _ (yH hj')
   have hsj := foldl_take (f := kq all[k]) (b := a2) hj'
   generalize (all.take j).foldl (kq all[k]) a2 = c at hvj hsj ⊢
   simp -implicitDefEqProofs only [rX,↓rY,ofConst,cells?,splice,↓reduceIte,Nat.reduceEqDiff,Nat.reduceAdd,freshP,isC,zc22,yC,yB,yA,hd2]
   refine ⟨hjj, hj', ?_⟩
   refine call_is (ok55 all[k] all[j] hpk.u hpj.m hpj.n) (by simp [lendsOk, lendOk, lends, lend, wkL, wk, wkR]) rfl trivial ?_
   have hput := putS_vd (a := (c.1, c.2 && (flyP all[k] all[j]).2)) hvj (hpk.fly (q := all[j]))
   have h56 := ok56 (flyP all[k] all[j]).1 (c.1, c.2 && (flyP all[k] all[j]).2) (hpk.fly (q := all[j])) hvj
   have hkq : kq all[k] c all[j] = putS (c.1, c.2 && (flyP all[k] all[j]).2) (flyP all[k] all[j]).1 := rfl
   rw [hkq] at hsj
   generalize flyP all[k] all[j] = f at *
   cases hc2 : c.2 with
   | true =>
    simp -implicitDefEqProofs only [rX,↓rY,cells?,splice,↓reduceIte,Nat.reduceEqDiff,Nat.reduceAdd,isC,yC,yA]
    have hcb : (c.2 && f.2) = f.2 := by rw [hc2]; simp
    rw [hcb] at h56 hsj hput
    refine call_isN [1, 0] [spans f.1, .ptr 0 0 0, .ptr 1 0 0] (.tup []) (.tup []) [.var [.b f.2], .var [spans c.1]] [.var [.b (putS (c.1, f.2) f.1).2], .var [spans (putS (c.1, f.2) f.1).1]] _ h56 ⟨by simp, by simp⟩ rfl ?_ (by simp) rfl rfl ?_ ?_
    ·simp [lendsOk, lendOk, lends, lend, wkL, wk, wkR, pos]
    ·trivial
    simp -implicitDefEqProofs only [rX,↓rY,ofConst,↓reduceIte,Nat.reduceEqDiff,Nat.reduceAdd,reduceCtorEq,leE,leH,leB,leV,leVs,keepP,liveP,wfE,wfB,wfV,wfL,yA,setAll,renB,r_sp,r_b]
    exact ⟨by simp only [lo, hi, maxLen] at *; omega, j + 1, ⟨by omega, by omega⟩, by simp, by rw [hsj], by rw [hsj]⟩
   | false =>
    simp -implicitDefEqProofs only [rX,↓rY,ofConst,cells?,splice,↓reduceIte,Nat.reduceEqDiff,Nat.reduceAdd,isC,yC,yA]
    have hcb : (c.2 && f.2) = false := by rw [hc2]; simp
    rw [hcb] at h56 hsj hput
    refine call_isN [1, 0] [spans f.1, .ptr 0 0 0, .ptr 1 0 0] (.tup []) (.tup []) [.var [.b false], .var [spans c.1]] [.var [.b (putS (c.1, false) f.1).2], .var [spans (putS (c.1, false) f.1).1]] _ h56 ⟨by simp, by simp⟩ rfl ?_ (by simp) rfl rfl ?_ ?_
    ·simp [lendsOk, lendOk, lends, lend, wkL, wk, wkR, pos]
    ·trivial
    simp -implicitDefEqProofs only [rX,↓rY,ofConst,↓reduceIte,Nat.reduceEqDiff,Nat.reduceAdd,reduceCtorEq,leE,leH,leB,leV,leVs,keepP,liveP,wfE,wfB,wfV,wfL,yA,setAll,renB,r_sp,r_b]
    exact ⟨by simp only [lo, hi, maxLen] at *; omega, j + 1, ⟨by omega, by omega⟩, by simp, by rw [hsj], by rw [hsj]⟩
  ·have hd2 : decide ((j : Int) < (all.length : Int)) = false := decide_eq_false (by omega)
   rw [yD hj'] at *
   simp -implicitDefEqProofs only [rX,↓rY,ofConst,↓reduceIte,Nat.reduceEqDiff,Nat.reduceAdd,reduceCtorEq,leE,leH,leB,leV,leVs,keepP,liveP,wfE,wfB,wfV,wfL,yA,hd2]
   rw [← hkp] at *
   exact ⟨by simp only [lo, hi, maxLen] at *; omega, k + 1, ⟨by omega, by omega⟩, by simp, by rw [hst], by rw [hst]⟩
 ·have hd : decide ((k : Int) < (all.length : Int)) = false := decide_eq_false (by omega)
  rw [yD hk'] at *
  simp -implicitDefEqProofs only [rX,↓rY,↓reduceIte,Nat.reduceEqDiff,Nat.reduceAdd,yA,hd]
  refine ret_data ?_
  simp -implicitDefEqProofs only [rX,↓reduceIte,Nat.reduceEqDiff,resP,tupV,wfV,wfL,yA]
  simp [Gv, tupV, gvV, gvL, wk, wkL, wkR, wfV, wfL, knownF]
end Go.Fx.O
namespace Go.Fx.O
open Go Go.Fx Go.Proofs Go.Fx.R
set_option maxRecDepth 20000
theorem ok27 (x y : Int) (hy : -1000000 ≤ y ∧ y ≤ 1000000) : Ok 27 [.i x, .i y] (Is (spans [(x, y + 1)])) := by
 refine okN_gv ?_
 refine ok_of lw27 (by simp) ?_
 unfold c27
 simp -implicitDefEqProofs only [rX,↓rY,ofConst,cells?,splice,↓reduceIte,Nat.reduceEqDiff,Nat.reduceAdd,reduceCtorEq,freshP,buildP,litsP,isD,Nat.reduceLT,Nat.reduceLeDiff,cxN,yC,yB,yA,args0]
 refine ⟨by simp only [lo, hi]; omega, ?_⟩
 exact ret_sl (els := [enS (x, y + 1)]) rfl rfl rfl
def id7 : Dig := ⟨7, 0, 0, 0, 0, 0, 0, 0, 0, 0, 0, 0, 0, 0, 0, 0⟩
def sa0 : Purse := ⟨id7, 0, [(1, 6)], [], [], [], []⟩
def sb0 : Purse := ⟨id7, 1, [], [], [], [], []⟩
def sa1 : Purse := ⟨id7, 0, [(3, 6)], [], [(1, 1)], [], [⟨1, 1, [(1, 3)]⟩]⟩
def sl0 : Ltr := ⟨id7, 1, 0, 1, 1, [(1, 3)]⟩
def sb1 : Purse := ⟨id7, 1, [(1, 3)], [], [], [(0, 1)], []⟩
def sak : Ltr := ⟨id7, 2, 1, 0, 1, []⟩
def sa2 : Purse := ⟨id7, 0, [(3, 6)], [], [(1, 1)], [], []⟩
def sb2 : Purse := ⟨id7, 1, [(2, 3)], [(1, 2)], [], [(0, 1)], []⟩
def sb3 : Purse := ⟨id7, 1, [], [(1, 3)], [], [(0, 1)], []⟩
theorem s1 : newP id7 0 5 = (sa0, 0) := by decide
theorem s2 : newP id7 1 0 = (sb0, 0) := by decide
theorem s3 : giveP sa0 1 2 = (sa1, 0) := by decide
theorem s4 : giveP sa1 1 4 = (sa1, 4) := by decide
theorem s5 : lettersP sa1 = [sl0] := by decide
theorem s6 : flyP sa1 sb0 = ([(1, 3)], true) := by decide
theorem s7 : hearA sb0 sl0 = (sb1, 1) := by decide
theorem s8 : hearA sb1 sl0 = (sb1, 1) := by decide
theorem s9 : hearA sa1 sak = (sa2, 0) := by decide
theorem s10 : spendP sb1 = (sb2, 1, 0) := by decide
theorem s11 : spendP sb2 = (sb3, 2, 0) := by decide
theorem s12 : spendP sb3 = (sb3, 0, 4) := by decide
theorem s13 : knownF [sa2, sb3] = ([(1, 6)], true) := by decide
theorem s14 : ansL sb0 sl0 1 = [sak] := by decide
theorem s15 : ansL sb1 sl0 1 = [sak] := by decide
theorem s16 : ansL sa1 sak 0 = [] := by decide
theorem vdp {l : List Sp} (h : vd l = true) : Vd l := vd_iff.1 h
theorem zc16 : yO V.v (Array.replicate 16 (Value.int .u8 0)).toList = [u0, u0, u0, u0, u0, u0, u0, u0, u0, u0, u0, u0, u0, u0, u0, u0] := rfl
theorem ge0 {x : List V} {h : yQ 0 < [x].length} : [x][yQ 0]'h = x := rfl
theorem n11 : (((1 : Nat) : Int) != 1) = false := rfl
theorem ss1 : (sl0.serial != 1) = false := rfl
theorem ss2 : (sak.kind != 2) = false := rfl
theorem ss3 : (sak.serial != 1) = false := rfl
theorem ok25m (all : List Purse) (hv : ∀ p ∈ all, PurV p) : OkN Tryz.prog 25 [.sl 0 0 all.length] [.arr 22 (all.map Purse.enc)] [0] (IsA (.tup [spans (knownF all).1, .b (knownF all).2]) [.dead]) := by
 have ht : yF all.length (all.map Purse.enc) = all.map Purse.enc := yD (by simp)
 exact okN_mv (xs := [.sl 0 0 all.length]) (h0 := [.arr 22 (all.map Purse.enc)]) (ok25 all hv) (by simp [gvL, gvV, wkL, wk, wkR, blk, ht])
theorem ok25Q (all : List Purse) (hv : ∀ p ∈ all, PurV p) : OkN Tryz.prog 25 [.sl 0 0 all.length] [.arr 22 (all.map Purse.enc)] [0] (IsQ (fun _ : Unit => True) (fun _ => .tup [spans (knownF all).1, .b (knownF all).2]) (fun _ => [.dead])) :=
 okN_post (ok25m all hv) fun r h ⟨h1, h2⟩ => ⟨(), trivial, h1, h2⟩
theorem r_tup {f : Nat → Option Nat} {l : List Sp} {b : Bool} : ren f (.tup [spans l, .b b]) = .tup [spans l, .b b] := rfl
theorem z1 : (((0 : Nat) : Int) == 0) = true := rfl
theorem z2 : ((sa2.out.length : Int) == 0) = true := rfl
theorem z3 : ((1 : Int) == 1) = true := rfl
theorem z4 : ((2 : Int) == 2) = true := rfl
theorem purA : PurV sa2 := ⟨vdp rfl, vdp rfl, fun g hg => by simp [sa2] at hg, (mkB_iff (me := 0) |>.1 rfl).mks, by decide⟩
theorem purB : PurV sb3 := ⟨vdp rfl, vdp rfl, fun g hg => by simp [sb3] at hg, (mkB_iff (me := 1) |>.1 rfl).mks, by decide⟩
set_option maxHeartbeats 2000000 in
theorem ok9 : Ok 9 [] (Is (.b true)) := by
 refine ok_of lw9 (by simp) ?_
 unfold c9
 simp -implicitDefEqProofs only [rX,↓rY,ofConst,cells?,splice,↓reduceIte,Nat.reduceEqDiff,Nat.reduceAdd,freshP,buildP,isC,Nat.reduceLeDiff,cxN,yC,yB,yA,args0,zc16]
 refine call_is (ok29 id7 0 5 (by decide)) (by simp [lendsOk, lendOk, lends, lend, wkL, wk, wkR, id7]) rfl trivial ?_
 rw [s1]
 simp -implicitDefEqProofs only [rX,↓rY,ofConst,cells?,splice,↓reduceIte,Nat.reduceEqDiff,Nat.reduceAdd,freshP,isC,zc22,yC,yB,yA]
 refine call_is (ok29 id7 1 0 (by decide)) (by simp [lendsOk, lendOk, lends, lend, wkL, wk, wkR, id7]) rfl trivial ?_
 rw [s2]
 simp -implicitDefEqProofs only [rX,↓rY,ofConst,cells?,splice,↓reduceIte,Nat.reduceEqDiff,Nat.reduceAdd,freshP,resP,tupV,wfV,isC,zc22,yC,yB,yA,bne_self_eq_false]
 refine call_is (ok11 sa0 1 2 (vdp rfl) (mkB_iff.1 rfl) (by decide)) (by simp [lendsOk, lendOk, lends, lend, wkL, wk, wkR]) rfl trivial ?_
 rw [s3]
 simp -implicitDefEqProofs only [rX,↓rY,ofConst,cells?,splice,↓reduceIte,Nat.reduceEqDiff,Nat.reduceAdd,isC,yC,yB,yA]
 refine call_is (ok11 sa1 1 4 (vdp rfl) (mkB_iff.1 rfl) (by decide)) (by simp [lendsOk, lendOk, lends, lend, wkL, wk, wkR]) rfl trivial ?_
 rw [s4]
 simp -implicitDefEqProofs only [rX,↓rY,↓reduceIte,Nat.reduceEqDiff,Nat.reduceAdd,yB,yA]
 refine call_is (ok16 sa1 (by decide) (by decide)) (by simp [lendsOk, lendOk, lends, lend, wkL, wk, wkR]) rfl trivial ?_
 rw [s5]
 simp -implicitDefEqProofs only [rX,↓rY,rdK,ofConst,↓reduceIte,Nat.reduceEqDiff,Nat.reduceAdd,resP,tupV,wfV,yA,bne_self_eq_false]
 refine call_is (ok27 3 5 (by decide)) (by simp [lendsOk, lendOk, lends, lend, wkL, wk, wkR]) rfl trivial ?_
 simp -implicitDefEqProofs only [rX,↓rY,↓reduceIte,Nat.reduceEqDiff]
 refine call_is (ok20 sa1.left [(3, 5 + 1)]) (by simp [lendsOk, lendOk, lends, lend, wkL, wk, wkR]) rfl trivial ?_
 rw [show (sa1.left == [(3, (5 : Int) + 1)]) = true from rfl]
 simp -implicitDefEqProofs only [rX,↓rY,rdK,ofConst,↓reduceIte,Nat.reduceEqDiff,Nat.reduceAdd,resP,tupV,wfV,yB,yA,ge0,n11,ss1,le_19]
 refine fun _ => ⟨by decide, by decide, ?_⟩
 refine call_is (ok21 sa1 sb0 (fun g hg => by simp [sa1] at hg; subst hg; exact vdp rfl) (mkB_iff (me := 1) |>.1 rfl).mks (by decide)) (by simp [lendsOk, lendOk, lends, lend, wkL, wk, wkR]) rfl trivial ?_
 rw [s6]
 simp -implicitDefEqProofs only [rX,↓rY,ofConst,↓reduceIte,Nat.reduceEqDiff]
 refine call_is (ok27 1 2 (by decide)) (by simp [lendsOk, lendOk, lends, lend, wkL, wk, wkR]) rfl trivial ?_
 simp -implicitDefEqProofs only [rX,↓rY,↓reduceIte,Nat.reduceEqDiff]
 refine call_is (ok20 [(1, 3)] [(1, 2 + 1)]) (by simp [lendsOk, lendOk, lends, lend, wkL, wk, wkR]) rfl trivial ?_
 rw [show ([(1, (3 : Int))] == [((1 : Int), (2 : Int) + 1)]) = true from rfl]
 simp -implicitDefEqProofs only [rX,↓rY,rdK,ofConst,↓reduceIte,Nat.reduceEqDiff,Nat.reduceAdd,yB,yA,ge0,l_len,l_t]
 refine ⟨by decide, by decide, ?_⟩
 refine call_is (ok18 sb0 sl0 (vdp rfl) (vdp rfl) (mkB_iff.1 rfl) (mkB_iff.1 rfl) (by decide)) pl_lend rfl trivial ?_
 rw [s7, show ansL sb0 sl0 (sb1, (1 : Int)).2 = [sak] from s14]
 simp -implicitDefEqProofs only [rX,↓rY,rdK,ofConst,cells?,splice,↓reduceIte,Nat.reduceEqDiff,Nat.reduceAdd,isC,yC,yB,yA,ge0,l_len,l_t]
 refine ⟨by decide, by decide, ?_⟩
 refine call_is (ok18 sb1 sl0 (vdp rfl) (vdp rfl) (mkB_iff.1 rfl) (mkB_iff.1 rfl) (by decide)) pl_lend rfl trivial ?_
 rw [s8, show ansL sb1 sl0 (sb1, (1 : Int)).2 = [sak] from s15]
 simp -implicitDefEqProofs only [rX,↓rY,rdK,ofConst,cells?,splice,↓reduceIte,Nat.reduceEqDiff,Nat.reduceAdd,isC,yC,yA]
 refine call_is (ok27 1 2 (by decide)) (by simp [lendsOk, lendOk, lends, lend, wkL, wk, wkR]) rfl trivial ?_
 simp -implicitDefEqProofs only [rX,↓reduceIte,Nat.reduceEqDiff]
 refine call_is (ok20 sb1.left [(1, 2 + 1)]) (by simp [lendsOk, lendOk, lends, lend, wkL, wk, wkR]) rfl trivial ?_
 rw [show (sb1.left == [((1 : Int), (2 : Int) + 1)]) = true from rfl]
 simp -implicitDefEqProofs only [rX,↓rY,↓reduceIte,Nat.reduceEqDiff]
 refine call_is (ok15e [sak]) (by simp [lendsOk, lendOk, lends, lend, wkL, wk, wkR]) rfl trivial ?_
 simp -implicitDefEqProofs only [rX,↓rY,rdK,ofConst,↓reduceIte,Nat.reduceEqDiff,Nat.reduceAdd,resP,tupV,wfV,yB,yA,ge0,n11,ss2,ss3,l_len,le_16,le_19,l_t]
 refine fun _ => ⟨by decide, by decide, by decide, by decide, by decide, by decide, ?_⟩
 refine call_is (ok18 sa1 sak (vdp rfl) (vdp rfl) (mkB_iff.1 rfl) (mkB_iff.1 rfl) (by decide)) pl_lend rfl trivial ?_
 rw [s9, show ansL sa1 sak (sa2, (0 : Int)).2 = [] from s16]
 simp -implicitDefEqProofs only [rX,↓rY,cells?,splice,↓reduceIte,Nat.reduceEqDiff,Nat.reduceAdd,isC,yC,yB,yA]
 refine call_is (ok10 sb1 (vdp rfl) (vdp rfl)) (by simp [lendsOk, lendOk, lends, lend, wkL, wk, wkR]) rfl trivial ?_
 rw [s10]
 simp -implicitDefEqProofs only [rX,↓rY,cells?,splice,↓reduceIte,Nat.reduceEqDiff,Nat.reduceAdd,isC,yC,yB,yA]
 refine call_is (ok10 sb2 (vdp rfl) (vdp rfl)) (by simp [lendsOk, lendOk, lends, lend, wkL, wk, wkR]) rfl trivial ?_
 rw [s11]
 simp -implicitDefEqProofs only [rX,↓rY,cells?,splice,↓reduceIte,Nat.reduceEqDiff,Nat.reduceAdd,isC,yC,yB,yA]
 refine call_is (ok10 sb3 (vdp rfl) (vdp rfl)) (by simp [lendsOk, lendOk, lends, lend, wkL, wk, wkR]) rfl trivial ?_
 rw [s12]
 simp -implicitDefEqProofs only [rX,↓rY,ofConst,cells?,splice,↓reduceIte,Nat.reduceEqDiff,Nat.reduceAdd,freshP,litsP,isD,isC,Nat.reduceLT,zc22,yC,yB,yA,↓op_litsf,↓frzP_n,↓frzP_c,↓frzQ_a]
 refine call_isM (fun _ : Unit => True) [4] [0] [4] [.sl 0 0 2] (fun _ => .tup [spans (knownF [sa2, sb3]).1, .b (knownF [sa2, sb3]).2]) [.arr 22 ([sa2, sb3].map Purse.enc)] (fun _ => [.dead]) (ok25Q [sa2, sb3] fun p hp => by simp at hp; rcases hp with rfl | rfl; exact purA; exact purB) (by simp) (by simp) rfl (by simp [lendsOk, lendOk, lends, lend, wkL, wk, pos]) ?_
 rintro ⟨⟩ _
 refine ⟨trivial, ?_⟩
 rw [s13]
 simp -implicitDefEqProofs only [rX,↓rY,ofConst,↓reduceIte,Nat.reduceEqDiff,Nat.reduceAdd,reduceCtorEq,resP,tupV,wfV,killE,killB,kill,kills,St.kill,yA,beq_self_eq_true,z1,z2,r_tup,setAll,renB]
 refine fun _ _ => ?_
 refine call_is (ok27 1 5 (by decide)) (by simp [lendsOk, lendOk, lends, lend, wkL, wk, wkR]) rfl trivial ?_
 simp -implicitDefEqProofs only [rX,↓rY,↓reduceIte,Nat.reduceEqDiff]
 refine call_is (ok20 [(1, 6)] [(1, 5 + 1)]) (by simp [lendsOk, lendOk, lends, lend, wkL, wk, wkR]) rfl trivial ?_
 rw [show ([(1, (6 : Int))] == [((1 : Int), (5 : Int) + 1)]) = true from rfl]
 simp -implicitDefEqProofs only [rX,↓rY,↓reduceIte,Nat.reduceEqDiff,resP,tupV,wfV]
 trace_state
end Go.Fx.O
namespace Go.Fx.O
open Go Go.Fx Go.Proofs Go.Fx.R
set_option maxRecDepth 20000
end Go.Fx.O
namespace Go.Fx.O
open Go Go.Fx Go.Proofs Go.Fx.R
set_option maxRecDepth 20000
theorem inS_lo {l : List Sp} (h : Sep l) {s : Sp} (hs : s ∈ l) : inS l s.1 := ⟨s, hs, by omega, h.1 s hs⟩
theorem inS_hi {l : List Sp} (h : Sep l) {s : Sp} (hs : s ∈ l) : inS l (s.2 - 1) := ⟨s, hs, by have := h.1 s hs; omega, by omega⟩
theorem Us.in {l : List Sp} (h : Us l) {x : Int} (hx : inS l x) : 1 ≤ x ∧ x < 1073741825 := by
 obtain ⟨s, hs, h1, h2⟩ := hx
 have := h.b s hs
 omega
theorem us_of {l : List Sp} (h : Sep l) (hn : l.length ≤ 1000) (hx : ∀ x, inS l x → 1 ≤ x ∧ x < 1073741825) : Us l :=
 ⟨vd_of h fun x h1 => by have := hx x h1; omega, hn, fun s hs => by
  have a := hx _ (inS_lo h hs)
  have b := hx _ (inS_hi h hs)
  omega⟩
theorem meet0 {a b : List Sp} (ha : Sep a) : (meetS a b).length = 0 ↔ ∀ x, inS a x → ¬ inS b x := by
 rw [vH]
 constructor
 ·intro h x h1 h2
  have : inS (meetS a b) x := in_meetS.2 ⟨h1, h2⟩
  rw [h] at this
  exact inS_nil.1 this
 ·intro h
  refine Sep.ext (sep_meetS ha) sep_nil fun x => ?_
  rw [in_meetS, inS_nil]
  exact ⟨fun ⟨h1, h2⟩ => h x h1 h2, fun h => h.elim⟩
theorem cnt_add : ∀ (l : List Sp) (st : List Sp × Bool × Sp), (l.foldl addStep st).1.length + (if (l.foldl addStep st).2.1 then 0 else 1) ≤ st.1.length + (if st.2.1 then 0 else 1) + l.length
 | [], st => by simp only [vA, List.length_nil]; exact vG _
 | t :: l, st => by
  rw [yX]
  have h := cnt_add l (addStep st t)
  have h2 : (addStep st t).1.length + (if (addStep st t).2.1 then 0 else 1) ≤ st.1.length + (if st.2.1 then 0 else 1) + 1 := by
   unfold addStep
   repeat' split
   all_goals simp_all
   all_goals (try omega)
  rw [vM]
  omega
theorem addS_len {l : List Sp} {s : Sp} : (addS l s).length ≤ l.length + 1 := by
 unfold addS
 split
 ·omega
 ·have h := cnt_add l ([], false, s)
  unfold addEnd
  split
  ·rename_i h2
   rw [h2] at h
   simp at h ⊢
   omega
  ·rename_i h2
   have h2 : (l.foldl addStep ([], false, s)).2.1 = false := by simpa using h2
   rw [h2] at h
   simp at h ⊢
   omega
theorem bothS_len : ∀ {l a : List Sp}, (bothS a l).length ≤ a.length + l.length
 | [], a => by simp [bothS]
 | s :: l, a => by
  have h := bothS_len (l := l) (a := addS a s)
  have h2 := addS_len (l := a) (s := s)
  unfold bothS at h ⊢
  rw [yX, vM]
  omega
theorem prS_len : ∀ {l : List Sp} {n : Int}, (prS l n).length = l.length
 | [], _ => rfl
 | s :: l, n => by simp [prS, prS_len]
theorem rest_len {l : List Sp} {n : Int} (h : Sep l) (hn : 0 ≤ n) : (minusS l (takeS l n)).length ≤ l.length := by
 rw [← of_prS h hn]
 have := bothS_len (l := prS l n) (a := [])
 rw [prS_len] at this
 simpa [ofS] using this
theorem takeS_len : ∀ {l : List Sp} {n : Int}, (takeS l n).length ≤ l.length
 | [], _ => by simp [takeS]
 | s :: l, n => by
  unfold takeS
  split
  ·simp
  ·have := takeS_len (l := l) (n := n - min (s.2 - s.1) n)
   simp; omega
theorem Us.take {l : List Sp} {n : Int} (h : Us l) : Us (takeS l n) := us_of (sep_takeS h.v.1) (yU takeS_len h.n) fun x hx => h.in (takeS_in hx)
theorem Us.rest {l : List Sp} {n : Int} (h : Us l) (hn : 0 ≤ n) : Us (minusS l (takeS l n)) := us_of (sep_minusS h.v.1) (yU (rest_len h.v.1 hn) h.n) fun x hx => h.in (in_minusS.1 hx).1
def MkE (me : Int) (m : Sp) : Prop := (0 ≤ m.1 ∧ m.1 < 128) ∧ m.1 ≠ me ∧ 1 ≤ m.2 ∧ m.2 ≤ 1099511627776
theorem mkOk_iff {l : List Sp} {me : Int} : MkOk l me ↔ Mks l ∧ ∀ m ∈ l, MkE me m := by
 constructor
 ·intro h
  refine ⟨h.mks, fun m hm => ?_⟩
  obtain ⟨k, hk, rfl⟩ := yY hm
  exact (h.at hk).1
 ·rintro ⟨h1, h2⟩ k hk
  have h3 := h2 _ (yH hk)
  unfold badM partyB countsB
  have hp := vE.1 h1
  unfold MkE at h3
  by_cases h0 : 0 < k
  ·have := hp (k - 1) k (by omega) hk (by omega)
   simp
   omega
  ·simp [h0]
   omega
theorem setM_mem {l : List Sp} {who n : Int} {m : Sp} (h : m ∈ setM l who n) : m = (who, n) ∨ m ∈ l := by
 unfold setM at h
 rw [vR, yN] at h
 rcases h with h | rfl | h
 ·exact .inr ((vB.1 h).1)
 ·exact .inl rfl
 ·exact .inr ((vB.1 h).1)
theorem setM_mks {l : List Sp} {who n : Int} (h : Mks l) : Mks (setM l who n) := by
 unfold setM Mks
 rw [List.pairwise_append]
 refine ⟨h.filter _, ?_, ?_⟩
 ·rw [List.pairwise_cons]
  refine ⟨fun t ht => ?_, h.filter _⟩
  have := (vB.1 ht).2
  simpa using this
 ·intro a ha b hb
  have ha := (vB.1 ha).2
  have ha' : a.1 < who := by simpa using ha
  rcases yN.1 hb with rfl | hb
  ·exact ha'
  ·have hb := (vB.1 hb).2
   have hb' : who < b.1 := by simpa using hb
   omega
theorem setM_ok {l : List Sp} {me who n : Int} (h : MkOk l me) (hw : MkE me (who, n)) : MkOk (setM l who n) me := by
 rw [mkOk_iff] at h ⊢
 refine ⟨setM_mks h.1, fun m hm => ?_⟩
 rcases setM_mem hm with rfl | hm
 ·exact hw
 ·exact h.2 m hm
theorem find_app {p : Sp → Bool} {a b : List Sp} (h : ∀ m ∈ a, p m = false) : (a ++ b).find? p = b.find? p := by
 rw [List.find?_append, List.find?_eq_none.2 fun m hm => by simp [h m hm]]
 rfl
theorem markOf_set {l : List Sp} {who n t : Int} (h : Mks l) : markOf (setM l who n) t = if t = who then n else markOf l t := by
 by_cases e : t = who
 ·subst e
  rw [if_pos rfl]
  unfold markOf setM
  rw [find_app]
  ·rw [vN (by simp)]
  ·intro m hm
   have := (vB.1 hm).2
   simp at this ⊢
   omega
 ·rw [if_neg e]
  induction l with
  | nil =>
   unfold setM markOf
   simp [Ne.symm e]
  | cons m l ih =>
   obtain ⟨h1, h2⟩ := mks_cons.1 h
   have ih := ih h2
   rcases vL m.1 who with c | c | c
   ·have e1 : setM (m :: l) who n = m :: setM l who n := by
     unfold setM
     rw [yW (by simpa using c), yI (by simp; omega)]
     rfl
    rw [e1]
    unfold markOf at ih ⊢
    cases hm : m.1 == t with
    | true => rw [vN (by simpa using hm), vN (by simpa using hm)]
    | false => rw [yZ (by simpa using hm), yZ (by simpa using hm)]; exact ih
   ·have hno : l.filter (fun m => decide (m.1 < who)) = [] := by
     rw [yS]; intro t ht; have := h1 t ht; simp; omega
    have hall : l.filter (fun m => decide (who < m.1)) = l := by
     rw [yV]; intro t ht; have := h1 t ht; simp; omega
    have e1 : setM (m :: l) who n = (who, n) :: l := by
     unfold setM
     rw [yI (by simp; omega), yI (by simp; omega), hno, hall]
     rfl
    rw [e1]
    unfold markOf
    rw [yZ (by simp; omega), yZ (by simp; omega)]
   ·have hno : l.filter (fun m => decide (m.1 < who)) = [] := by
     rw [yS]; intro t ht; have := h1 t ht; simp; omega
    have hall : l.filter (fun m => decide (who < m.1)) = l := by
     rw [yV]; intro t ht; have := h1 t ht; simp; omega
    have e1 : setM (m :: l) who n = (who, n) :: m :: l := by
     unfold setM
     rw [yI (by simp; omega), yW (by simpa using c), hno, hall]
     rfl
    rw [e1]
    unfold markOf
    rw [yZ (by simp; omega)]
end Go.Fx.O
namespace Go.Fx.O
open Go Go.Fx Go.Proofs Go.Fx.R
set_option maxRecDepth 20000
def cnt (l : List Gift) (t : Int) : Int := ((l.filter fun g => g.to == t).length : Nat)
theorem cnt_cons {g : Gift} {l : List Gift} {t : Int} : cnt (g :: l) t = (if g.to = t then 1 else 0) + cnt l t := by
 unfold cnt
 rw [vQ]
 by_cases h : g.to = t
 ·rw [if_pos (by simpa using h), if_pos h, vM]; omega
 ·rw [if_neg (by simpa using h), if_neg h]; omega
def goodL (sent : List Sp) : List Gift → Prop
 | [] => True
 | g :: r => (isM sent g.to = true ∧ g.uses.length ≠ 0 ∧ Us g.uses ∧ g.serial = markOf sent g.to - cnt r g.to ∧ 1 ≤ g.serial) ∧ goodL sent r
theorem goodL_iff {sent : List Sp} : ∀ {l : List Gift}, goodL sent l ↔ ∀ k (h : k < l.length), isM sent l[k].to = true ∧ l[k].uses.length ≠ 0 ∧ Us l[k].uses ∧ l[k].serial = markOf sent l[k].to - cnt (l.drop (k + 1)) l[k].to ∧ 1 ≤ l[k].serial
 | [] => by simp [goodL]
 | g :: r => by
  unfold goodL
  rw [goodL_iff]
  constructor
  ·rintro ⟨h1, h2⟩ k hk
   cases k with
   | zero => exact h1
   | succ k => exact h2 k (by simpa using hk)
  ·intro h
   exact ⟨h 0 (by simp), fun k hk => h (k + 1) (by simpa using hk)⟩
theorem gds_iff {p : Purse} : Gds p ↔ goodL p.sent p.out := by
 rw [goodL_iff]
 unfold Gds
 refine forall_congr' fun k => forall_congr' fun hk => ?_
 unfold goodB
 rw [yM, yM, yM, yM, decide_eq_true_eq, decide_eq_true_eq, beq_iff_eq, usB_iff]
 unfold later cnt
 constructor
 ·rintro ⟨⟨⟨⟨a, b⟩, c⟩, d⟩, e⟩; exact ⟨a, b, c, d, e⟩
 ·rintro ⟨a, b, c, d, e⟩; exact ⟨⟨⟨⟨a, b⟩, c⟩, d⟩, e⟩
structure Rt (p : Purse) : Prop where
 me : 0 ≤ p.me ∧ p.me < 128
 l : Us p.left
 s : Us p.spent
 a : ∀ x, inS p.left x → ¬ inS p.spent x
 ms : MkOk p.sent p.me
 mh : MkOk p.heard p.me
 n : p.out.length ≤ 64
 g : goodL p.sent p.out
theorem rtB_iff {p : Purse} : rtB p = true ↔ Rt p := by
 unfold rtB frontB
 simp only [yM, decide_eq_true_eq, usB_iff, mkB_iff, gds_iff]
 constructor
 ·rintro ⟨⟨⟨⟨⟨⟨⟨h1, h2⟩, h3⟩, h4⟩, h5⟩, h6⟩, h7⟩, h8⟩
  exact ⟨by unfold partyB at h1; simpa using h1, h2, h3, (meet0 h2.v.1).1 h4, h5, h6, h7, h8⟩
 ·intro h
  exact ⟨⟨⟨⟨⟨⟨⟨by unfold partyB; simpa using h.me, h.l⟩, h.s⟩, (meet0 h.l.v.1).2 h.a⟩, h.ms⟩, h.mh⟩, h.n⟩, h.g⟩
theorem Rt.chk {p : Purse} (h : Rt p) : chkE p = 0 := by unfold chkE; rw [if_pos (rtB_iff.2 h)]
theorem goodL_lt {sent : List Sp} {t : Int} : ∀ {r : List Gift}, goodL sent r → ∀ g ∈ r, g.to = t → markOf sent t - cnt r t < g.serial
 | g :: r, ⟨⟨_, _, _, d, _⟩, hr⟩, x, hx, ht => by
  rw [cnt_cons]
  rcases yN.1 hx with rfl | hx
  ·rw [if_pos ht, d, ht]; omega
  ·have := goodL_lt hr x hx ht
   split <;> omega
theorem goodL_keep {sent : List Sp} {L : Ltr} : ∀ {out : List Gift}, goodL sent out → goodL sent (out.filter (keepB L))
 | [], _ => trivial
 | g :: r, ⟨⟨a, b, c, d, e⟩, hr⟩ => by
  have ih := goodL_keep (L := L) hr
  rw [vQ]
  cases hk : keepB L g with
  | false => exact ih
  | true =>
   refine ⟨⟨a, b, c, ?_, e⟩, ih⟩
   rw [d]
   congr 1
   unfold cnt
   rw [List.filter_filter]
   congr 2
   refine (List.filter_congr fun x hx => ?_)
   cases ht : x.to == g.to with
   | false => rfl
   | true =>
    have ht' : x.to = g.to := by simpa using ht
    have hlt := goodL_lt hr x hx ht'
    have : keepB L x = true := by
     unfold keepB at hk ⊢
     rw [ht']
     simp at hk ⊢
     omega
    rw [this]; rfl
theorem rt_ack {p : Purse} {L : Ltr} (h : Rt p) : Rt (ackP p L) := by
 unfold ackP
 split
 ·exact ⟨h.me, h.l, h.s, h.a, h.ms, h.mh, yU (vO ..) h.n, goodL_keep h.g⟩
 ·exact h
theorem rt_gift {p : Purse} {L : Ltr} (h : Rt p) (hu : Us L.uses) (h1 : partyB L.frm = true) (h2 : (L.frm == p.me) = false) (h3 : countsB L.serial = true) : Rt (giftP p L).1 := by
 unfold giftP
 split
 ·exact h
 ·split
  ·rename_i c
   unfold gOk at c
   simp only [yM, decide_eq_true_eq] at c
   obtain ⟨⟨⟨c1, c2⟩, c3⟩, c4⟩ := c
   have hv := h.l.v.1
   unfold partyB at h1
   unfold countsB at h3
   simp at h1 h2 h3
   refine ⟨h.me, us_of (sep_bothS hv) c4 fun x hx => ?_, h.s, fun x hx hy => ?_, h.ms, setM_ok h.mh ⟨by simp only; omega, h2, by simp only; omega, by simp only; omega⟩, h.n, h.g⟩
   ·rw [in_bothS hv] at hx
    rcases hx with hx | hx
    ·exact h.l.in hx
    ·exact hu.in hx
   ·rw [in_bothS hv] at hx
    rcases hx with hx | hx
    ·exact h.a x hx hy
    ·exact (meet0 hu.v.1).1 c3 x hx hy
  ·exact h
theorem rt_hear {p : Purse} {L : Ltr} (h : Rt p) : Rt (hearA p L).1 := by
 unfold hearA
 split
 ·exact h
 ·rename_i c
  split
  ·rename_i k1
   have c' : outL p L = false ∧ rightL L = true := by
    cases h1 : outL p L <;> cases h2 : rightL L <;> simp_all
   have hr : usB L.uses = true := by
    have := c'.2
    unfold rightL at this
    rw [if_pos k1] at this
    simp at this
    exact this.2
   have ho := c'.1
   unfold outL at ho
   simp only [Bool.or_eq_false_iff, Bool.not_eq_false'] at ho
   exact rt_gift h (usB_iff.1 hr) ho.1.1.2 ho.1.2 ho.2
  ·exact rt_ack h
theorem Rt.uv {p : Purse} (h : Rt p) : ∀ g ∈ p.out, Us g.uses := by
 have key : ∀ {l : List Gift}, goodL p.sent l → ∀ g ∈ l, Us g.uses := by
  intro l
  induction l with
  | nil => intro _ g hg; cases hg
  | cons x r ih =>
   rintro ⟨h1, h2⟩ g hg
   rcases yN.1 hg with rfl | hg
   ·exact h1.2.2.1
   ·exact ih h2 g hg
 exact key h.g
end Go.Fx.O
namespace Go.Fx.O
open Go Go.Fx Go.Proofs Go.Fx.R
set_option maxRecDepth 20000
theorem chk_ne {p : Purse} (h : ¬ Rt p) : chkE p = 1 := by unfold chkE; rw [if_neg fun c => h (rtB_iff.1 c)]
theorem c00 : ((0 : Int) != 0) = false := rfl
theorem n10 : ((1 : Int) != 0) = true := rfl
theorem few_out {p : Purse} (h : fewB p = true) : p.out.length ≤ 1000000 := by
 unfold fewB at h
 simp only [yM, decide_eq_true_eq] at h
 omega
end Go.Fx.O
namespace Go.Fx.O
open Go Go.Fx Go.Proofs Go.Fx.R
set_option maxRecDepth 20000
theorem hear_id {p : Purse} {L : Ltr} : (hearA p L).1.id = p.id ∧ (hearA p L).1.me = p.me := by
 unfold hearA
 split
 ·exact ⟨rfl, rfl⟩
 ·split
  ·exact giftP_id
  ·unfold ackP
   split <;> exact ⟨rfl, rfl⟩
theorem out_same {p q : Purse} {L : Ltr} (h1 : q.id = p.id) (h2 : q.me = p.me) : outL q L = outL p L := by unfold outL; rw [h1, h2]
theorem hear_again {p : Purse} {L : Ltr} (h : Rt p) : hearA (hearA p L).1 L = hearA p L := by
 have hi := hear_id (p := p) (L := L)
 have ho := out_same (L := L) hi.1 hi.2
 by_cases c : (outL p L || !rightL L) = true
 ·have e : hearA p L = (p, 0) := if_pos c
  rw [e]; exact e
 ·by_cases k : L.kind = 1
  ·have e : hearA p L = giftP p L := by unfold hearA; rw [if_neg c, if_pos k]
   have key : ∀ x, outL x L = outL p L → hearA x L = giftP x L := fun x hx => by unfold hearA; rw [hx, if_neg c, if_pos k]
   have e2 := key _ ho
   rw [e2, e]
   by_cases g1 : L.serial ≤ markOf p.heard L.frm
   ·have eg : giftP p L = (p, markOf p.heard L.frm) := if_pos g1
    rw [eg]; exact eg
   ·by_cases g2 : gOk p L = true
    ·have eg : giftP p L = ({ p with left := bothS p.left L.uses, heard := setM p.heard L.frm L.serial }, L.serial) := by unfold giftP; rw [if_neg g1, if_pos g2]
     rw [eg]
     have hm : markOf (setM p.heard L.frm L.serial) L.frm = L.serial := by rw [markOf_set h.mh.mks, if_pos rfl]
     unfold giftP
     simp only [hm]
     rw [if_pos (Int.le_refl _)]
    ·have eg : giftP p L = (p, 0) := by unfold giftP; rw [if_neg g1, if_neg g2]
     rw [eg]; exact eg
  ·have e : hearA p L = (ackP p L, 0) := by unfold hearA; rw [if_neg c, if_neg k]
   have key : ∀ x, outL x L = outL p L → hearA x L = (ackP x L, 0) := fun x hx => by unfold hearA; rw [hx, if_neg c, if_neg k]
   have e2 := key _ ho
   rw [e2, e]
   congr 1
   show ackP (ackP p L) L = ackP p L
   by_cases g1 : L.serial ≤ markOf p.sent L.frm
   ·have eg : ackP p L = { p with out := p.out.filter (keepB L) } := if_pos g1
    rw [eg]
    unfold ackP
    rw [if_pos g1]
    simp [List.filter_filter]
   ·have eg : ackP p L = p := if_neg g1
    rw [eg]; exact eg
theorem ans_same {p q : Purse} {L : Ltr} {n : Int} (h1 : q.id = p.id) (h2 : q.me = p.me) : ansL q L n = ansL p L n := by unfold ansL ackL; rw [h1, h2]
theorem hle {q : Purse} (h : Rt q) : q.out.length ≤ 1000000 := yU h.n (by omega)
theorem eqL {l : List Sp} : (l == l) = true := beq_self_eq_true _
set_option maxHeartbeats 2000000 in
theorem ok4 (p : Purse) (L : Ltr) (q : Purse) : Ok 4 [.agg p.enc, .agg L.enc, .agg q.enc] (Is (.b true)) := by
 refine ok_of lw4 (by simp) ?_
 unfold c4
 simp -implicitDefEqProofs only [rX,↓rY,ofConst,cells?,↓reduceIte,Nat.reduceEqDiff,Nat.reduceAdd,reduceCtorEq,freshP,cxN,yB,yA,args0]
 refine call_is (ok7 p) (by simp [lendsOk, lendOk, lends, lend, wkL, wk, wkR]) rfl trivial ?_
 simp -implicitDefEqProofs only [rX,↓rY,↓reduceIte,Nat.reduceEqDiff,Nat.reduceAdd,yB,yA]
 refine call_is (ok7 q) (by simp [lendsOk, lendOk, lends, lend, wkL, wk, wkR]) rfl trivial ?_
 have gt : ∀ (a b : Nat), decide ((b : Int) < (a : Int)) = !decide (a ≤ b) := fun a b => by
  by_cases h : a ≤ b
  ·rw [decide_eq_true h, decide_eq_false (by omega)]; rfl
  ·rw [decide_eq_false h, decide_eq_true (by omega)]; rfl
 have g1 := gt L.uses.length 30
 simp only [vZ] at g1
 cases h1 : fewB p with
 | false =>
  simp -implicitDefEqProofs only [rX,↓rY,ofConst,↓reduceIte,Nat.reduceEqDiff,Nat.reduceAdd]
  refine call_is ok9 (by simp [lendsOk, lends, wkL]) rfl trivial ?_
  simp -implicitDefEqProofs only [rX,↓reduceIte,resP,tupV,wfV]
 | true =>
 cases h2 : fewB q with
 | false =>
  simp -implicitDefEqProofs only [rX,↓rY,ofConst,↓reduceIte,Nat.reduceEqDiff,Nat.reduceAdd]
  refine call_is ok9 (by simp [lendsOk, lends, wkL]) rfl trivial ?_
  simp -implicitDefEqProofs only [rX,↓reduceIte,resP,tupV,wfV]
 | true =>
 have ho := few_out h1
 have hoq := few_out h2
 cases h3 : decide (L.uses.length ≤ 30) with
 | false =>
  rw [h3] at g1
  simp -implicitDefEqProofs only [rX,↓rY,ofConst,↓reduceIte,Nat.reduceEqDiff,Nat.reduceAdd,yB,yA,g1,le_20]
  intro _
  refine call_is ok9 (by simp [lendsOk, lends, wkL]) rfl trivial ?_
  simp -implicitDefEqProofs only [rX,↓reduceIte,resP,tupV,wfV]
 | true =>
 rw [h3] at g1
 simp -implicitDefEqProofs only [rX,↓rY,ofConst,↓reduceIte,Nat.reduceEqDiff,Nat.reduceAdd,yB,yA,g1,le_20]
 intro _
 refine call_is (ok8 p ho) (by simp [lendsOk, lendOk, lends, lend, wkL, wk, wkR]) rfl trivial ?_
 by_cases hr : Rt p
 case neg =>
  rw [chk_ne hr]
  simp -implicitDefEqProofs only [rX,↓rY,ofConst,↓reduceIte,Nat.reduceEqDiff,Nat.reduceAdd,yB,yA,n10]
  refine call_is ok9 (by simp [lendsOk, lends, wkL]) rfl trivial ?_
  simp -implicitDefEqProofs only [rX,↓reduceIte,resP,tupV,wfV]
 rw [hr.chk]
 simp -implicitDefEqProofs only [rX,↓rY,ofConst,↓reduceIte,Nat.reduceEqDiff,Nat.reduceAdd,yB,yA,c00]
 refine call_is (ok8 q hoq) (by simp [lendsOk, lendOk, lends, lend, wkL, wk, wkR]) rfl trivial ?_
 by_cases hq : Rt q
 case neg =>
  rw [chk_ne hq]
  simp -implicitDefEqProofs only [rX,↓rY,ofConst,↓reduceIte,Nat.reduceEqDiff,Nat.reduceAdd,yB,yA,n10,l_len,l_t]
  refine call_is ok9 (by simp [lendsOk, lends, wkL]) rfl trivial ?_
  simp -implicitDefEqProofs only [rX,↓reduceIte,resP,tupV,wfV]
 rw [hq.chk]
 simp -implicitDefEqProofs only [rX,↓rY,ofConst,↓reduceIte,Nat.reduceEqDiff,Nat.reduceAdd,yB,yA,c00,l_len,l_t]
 refine call_is (ok18 p L hr.l.v hr.s.v hr.mh hr.ms ho) pl_lend rfl trivial ?_
 have h19 := ok19 p L hr.l.v hr.s.v hr.mh hr.ms ho
 have hx := rt_hear (L := L) hr
 have hid := hear_id (p := p) (L := L)
 have hag := hear_again (L := L) hr
 have h18 := ok18 (hearA p L).1 L hx.l.v hx.s.v hx.mh hx.ms (hle hx)
 rw [hag, ans_same hid.1 hid.2] at h18
 generalize ansL p L (hearA p L).2 = A at h18 h19 ⊢
 generalize (hearA p L).1 = x at h18 h19 hx ⊢
 simp -implicitDefEqProofs only [rX,↓rY,ofConst,cells?,splice,↓reduceIte,Nat.reduceEqDiff,Nat.reduceAdd,freshP,isC,zc22,yC,yB,yA,l_len,l_t]
 refine call_is h19 pl_lend rfl trivial ?_
 simp -implicitDefEqProofs only [rX,↓rY,ofConst,cells?,splice,↓reduceIte,Nat.reduceEqDiff,Nat.reduceAdd,freshP,isC,Nat.reduceLeDiff,zc22s,yC,yB,yA]
 refine call_is (ok14e x) (by simp [lendsOk, lendOk, lends, lend, wkL, wk, wkR]) rfl trivial ?_
 simp -implicitDefEqProofs only [rX,↓rY,↓reduceIte,Nat.reduceEqDiff]
 refine call_is (ok15e A) (by simp [lendsOk, lendOk, lends, lend, wkL, wk, wkR]) rfl trivial ?_
 simp -implicitDefEqProofs only [rX,↓rY,↓reduceIte,Nat.reduceEqDiff,Nat.reduceAdd,yB,yA]
 refine call_is (ok8 x (hle hx)) (by simp [lendsOk, lendOk, lends, lend, wkL, wk, wkR]) rfl trivial ?_
 rw [hx.chk]
 simp -implicitDefEqProofs only [rX,↓rY,ofConst,↓reduceIte,Nat.reduceEqDiff,Nat.reduceAdd,resP,tupV,wfV,yB,yA,c00,l_len,l_t]
 refine call_is h18 pl_lend rfl trivial ?_
 simp -implicitDefEqProofs only [rX,↓rY,ofConst,cells?,splice,↓reduceIte,Nat.reduceEqDiff,Nat.reduceAdd,freshP,isC,zc22,yC,yB,yA]
 refine call_is (ok14e x) (by simp [lendsOk, lendOk, lends, lend, wkL, wk, wkR]) rfl trivial ?_
 simp -implicitDefEqProofs only [rX,↓rY,↓reduceIte,Nat.reduceEqDiff]
 refine call_is (ok15e A) (by simp [lendsOk, lendOk, lends, lend, wkL, wk, wkR]) rfl trivial ?_
 simp -implicitDefEqProofs only [rX,↓rY,↓reduceIte,Nat.reduceEqDiff,Nat.reduceAdd]
 refine call_is ok9 (by simp [lendsOk, lends, wkL]) rfl trivial ?_
 simp -implicitDefEqProofs only [rX,↓rY,rdK,↓reduceIte,Nat.reduceEqDiff,Nat.reduceAdd,yB,yA]
 refine call_is (ok21 p q (fun g hg => (hr.uv g hg).v) hq.mh.mks (yU hq.mh.len (by omega))) (by simp [lendsOk, lendOk, lends, lend, wkL, wk, wkR]) rfl trivial ?_
 simp -implicitDefEqProofs only [rX,↓rY,↓reduceIte,Nat.reduceEqDiff]
 refine call_is (ok22 p q (fun g hg => (hr.uv g hg).v)) (by simp [lendsOk, lendOk, lends, lend, wkL, wk, wkR]) rfl trivial ?_
 simp -implicitDefEqProofs only [rX,↓rY,↓reduceIte,Nat.reduceEqDiff]
 refine call_is (ok20 (flyP p q).1 (flyP p q).1) (by simp [lendsOk, lendOk, lends, lend, wkL, wk, wkR]) rfl trivial ?_
 rw [eqL]
 simp -implicitDefEqProofs only [rX,↓rY,↓reduceIte,Nat.reduceEqDiff,resP,tupV,wfV]
end Go.Fx.O
namespace Go.Fx.O
open Go Go.Fx Go.Proofs Go.Fx.R
theorem fn_of {f : FuncId} {xs : List V} (h : Ok f xs (Is (.b true))) : Fn Tryz.prog f xs [] [] (fun r _ => r = .b true) := by
 have h := h.2
 intro ρ X w vals h1 h2
 refine Calls.mono (h ρ X w vals h1 h2) ?_
 rintro e w' ⟨val, r, h', ρ', q1, q2, q3, q4, q5, q6⟩
 exact ⟨val, r, h', ρ', q1, ⟨q2.1.1, q2.2⟩, q3, q4, q5, q6⟩
theorem ex_mapP {α β : Type} {g : α → β} {P : α → Prop} : ∀ {els : List β}, (∀ x ∈ els, ∃ a, x = g a ∧ P a) → ∃ l : List α, els = l.map g ∧ ∀ a ∈ l, P a
 | [], _ => ⟨[], rfl, fun _ h => by cases h⟩
 | x :: r, h => by
  obtain ⟨a, rfl, ha⟩ := h x List.mem_cons_self
  obtain ⟨l, rfl, hl⟩ := ex_mapP (els := r) fun y hy => h y (List.mem_cons_of_mem _ hy)
  refine ⟨a :: l, rfl, fun b hb => ?_⟩
  rcases yN.1 hb with rfl | hb
  ·exact ha
  ·exact hl b hb
abbrev tDig : Fx.T := .st [.int .u8, .int .u8, .int .u8, .int .u8, .int .u8, .int .u8, .int .u8, .int .u8, .int .u8, .int .u8, .int .u8, .int .u8, .int .u8, .int .u8, .int .u8, .int .u8]
abbrev tSp : Fx.T := .st [.int .i64, .int .i64]
abbrev tSps : Fx.T := .sl 2 tSp
abbrev tGift : Fx.T := .st [.int .i64, .int .i64, tSps]
abbrev tPurse : Fx.T := .st [tDig, .int .i64, tSps, tSps, tSps, tSps, .sl 3 tGift]
theorem wf_int {k : IntKind} {x : List V} (h : WfT (.int k) x) : ∃ n : Int, x = [.v (.int k n)] ∧ lo k ≤ n ∧ n ≤ hi k := by
 simpa only [WfT] using h
theorem wf_cons {t : Fx.T} {ts : List Fx.T} {x : List V} (h : WfTs (t :: ts) x) : ∃ a b, x = a ++ b ∧ WfT t a ∧ WfTs ts b := by
 rwa [WfTs.eq_2] at h
theorem wf_dig {x : List V} (h : WfT tDig x) : ∃ d : Dig, x = d.enc := by
 rw [WfT] at h
 obtain ⟨_, _, rfl, q0, h⟩ := wf_cons h
 obtain ⟨_, _, rfl, q1, h⟩ := wf_cons h
 obtain ⟨_, _, rfl, q2, h⟩ := wf_cons h
 obtain ⟨_, _, rfl, q3, h⟩ := wf_cons h
 obtain ⟨_, _, rfl, q4, h⟩ := wf_cons h
 obtain ⟨_, _, rfl, q5, h⟩ := wf_cons h
 obtain ⟨_, _, rfl, q6, h⟩ := wf_cons h
 obtain ⟨_, _, rfl, q7, h⟩ := wf_cons h
 obtain ⟨_, _, rfl, q8, h⟩ := wf_cons h
 obtain ⟨_, _, rfl, q9, h⟩ := wf_cons h
 obtain ⟨_, _, rfl, q10, h⟩ := wf_cons h
 obtain ⟨_, _, rfl, q11, h⟩ := wf_cons h
 obtain ⟨_, _, rfl, q12, h⟩ := wf_cons h
 obtain ⟨_, _, rfl, q13, h⟩ := wf_cons h
 obtain ⟨_, _, rfl, q14, h⟩ := wf_cons h
 obtain ⟨_, _, rfl, q15, h⟩ := wf_cons h
 rw [WfTs.eq_1] at h
 subst h
 obtain ⟨n0, rfl, _⟩ := wf_int q0
 obtain ⟨n1, rfl, _⟩ := wf_int q1
 obtain ⟨n2, rfl, _⟩ := wf_int q2
 obtain ⟨n3, rfl, _⟩ := wf_int q3
 obtain ⟨n4, rfl, _⟩ := wf_int q4
 obtain ⟨n5, rfl, _⟩ := wf_int q5
 obtain ⟨n6, rfl, _⟩ := wf_int q6
 obtain ⟨n7, rfl, _⟩ := wf_int q7
 obtain ⟨n8, rfl, _⟩ := wf_int q8
 obtain ⟨n9, rfl, _⟩ := wf_int q9
 obtain ⟨n10, rfl, _⟩ := wf_int q10
 obtain ⟨n11, rfl, _⟩ := wf_int q11
 obtain ⟨n12, rfl, _⟩ := wf_int q12
 obtain ⟨n13, rfl, _⟩ := wf_int q13
 obtain ⟨n14, rfl, _⟩ := wf_int q14
 obtain ⟨n15, rfl, _⟩ := wf_int q15
 exact ⟨⟨n0, n1, n2, n3, n4, n5, n6, n7, n8, n9, n10, n11, n12, n13, n14, n15⟩, rfl⟩
theorem wf_sp {x : List V} (h : WfT tSp x) : ∃ s : Sp, x = enS s := by
 rw [WfT] at h
 obtain ⟨_, _, rfl, q0, h⟩ := wf_cons h
 obtain ⟨_, _, rfl, q1, h⟩ := wf_cons h
 rw [WfTs.eq_1] at h
 subst h
 obtain ⟨n0, rfl, _⟩ := wf_int q0
 obtain ⟨n1, rfl, _⟩ := wf_int q1
 exact ⟨(n0, n1), rfl⟩
theorem wf_sps {x : List V} (h : WfT tSps x) : ∃ l : List Sp, x = [spans l] := by
 rw [WfT] at h
 obtain ⟨els, rfl, _, he⟩ := h
 obtain ⟨l, rfl, _⟩ := ex_mapP (g := enS) (P := fun _ => True) fun x hx => by
  obtain ⟨s, hs⟩ := wf_sp (he x hx)
  exact ⟨s, hs, trivial⟩
 exact ⟨l, rfl⟩
theorem wf_gift {x : List V} (h : WfT tGift x) : ∃ g : Gift, x = g.enc := by
 rw [WfT] at h
 obtain ⟨_, _, rfl, q0, h⟩ := wf_cons h
 obtain ⟨_, _, rfl, q1, h⟩ := wf_cons h
 obtain ⟨_, _, rfl, q2, h⟩ := wf_cons h
 rw [WfTs.eq_1] at h
 subst h
 obtain ⟨n0, rfl, _⟩ := wf_int q0
 obtain ⟨n1, rfl, _⟩ := wf_int q1
 obtain ⟨l, rfl⟩ := wf_sps q2
 exact ⟨⟨n0, n1, l⟩, rfl⟩
theorem wf_gifts {x : List V} (h : WfT (.sl 3 tGift) x) : ∃ l : List Gift, x = [gifts l] := by
 rw [WfT] at h
 obtain ⟨els, rfl, _, he⟩ := h
 obtain ⟨l, rfl, _⟩ := ex_mapP (g := Gift.enc) (P := fun _ => True) fun x hx => by
  obtain ⟨s, hs⟩ := wf_gift (he x hx)
  exact ⟨s, hs, trivial⟩
 exact ⟨l, rfl⟩
theorem wf_purse {x : List V} (h : WfT tPurse x) : ∃ p : Purse, x = p.enc := by
 rw [WfT] at h
 obtain ⟨_, _, rfl, q0, h⟩ := wf_cons h
 obtain ⟨_, _, rfl, q1, h⟩ := wf_cons h
 obtain ⟨_, _, rfl, q2, h⟩ := wf_cons h
 obtain ⟨_, _, rfl, q3, h⟩ := wf_cons h
 obtain ⟨_, _, rfl, q4, h⟩ := wf_cons h
 obtain ⟨_, _, rfl, q5, h⟩ := wf_cons h
 obtain ⟨_, _, rfl, q6, h⟩ := wf_cons h
 rw [WfTs.eq_1] at h
 subst h
 obtain ⟨d, rfl⟩ := wf_dig q0
 obtain ⟨n1, rfl, _⟩ := wf_int q1
 obtain ⟨l2, rfl⟩ := wf_sps q2
 obtain ⟨l3, rfl⟩ := wf_sps q3
 obtain ⟨l4, rfl⟩ := wf_sps q4
 obtain ⟨l5, rfl⟩ := wf_sps q5
 obtain ⟨l6, rfl⟩ := wf_gifts q6
 exact ⟨⟨d, n1, l2, l3, l4, l5, l6⟩, rfl⟩
theorem wv_purse {x : V} (h : WfV tPurse x) : ∃ p : Purse, x = .agg p.enc := by
 obtain ⟨cs, h, rfl⟩ := h
 obtain ⟨p, rfl⟩ := wf_purse (by rw [WfT]; exact h)
 exact ⟨p, rfl⟩
end Go.Fx.O
namespace Go.Fx.O
open Go Go.Fx Go.Proofs Go.Fx.R
abbrev tLtr : Fx.T := .st [tDig, .int .i64, .int .i64, .int .i64, .int .i64, tSps]
theorem wv_ltr {x : V} (h : WfV tLtr x) : ∃ l : Ltr, x = .agg l.enc := by
 obtain ⟨cs, h, rfl⟩ := h
 obtain ⟨_, _, rfl, q0, h⟩ := wf_cons h
 obtain ⟨_, _, rfl, q1, h⟩ := wf_cons h
 obtain ⟨_, _, rfl, q2, h⟩ := wf_cons h
 obtain ⟨_, _, rfl, q3, h⟩ := wf_cons h
 obtain ⟨_, _, rfl, q4, h⟩ := wf_cons h
 obtain ⟨_, _, rfl, q5, h⟩ := wf_cons h
 rw [WfTs.eq_1] at h
 subst h
 obtain ⟨d, rfl⟩ := wf_dig q0
 obtain ⟨n1, rfl, _⟩ := wf_int q1
 obtain ⟨n2, rfl, _⟩ := wf_int q2
 obtain ⟨n3, rfl, _⟩ := wf_int q3
 obtain ⟨n4, rfl, _⟩ := wf_int q4
 obtain ⟨l, rfl⟩ := wf_sps q5
 exact ⟨⟨d, n1, n2, n3, n4, l⟩, rfl⟩
theorem fn4 : ∀ xs, WfA [tPurse, tLtr, tPurse] xs → Fn Tryz.prog 4 xs [] [] (fun r _ => r = .b true) := by
 intro xs h
 obtain ⟨x1, _, rfl, h1, x2, _, rfl, h2, x3, _, rfl, h3, h⟩ := h
 obtain rfl : _ = [] := h
 obtain ⟨p, rfl⟩ := wv_purse h1
 obtain ⟨L, rfl⟩ := wv_ltr h2
 obtain ⟨q, rfl⟩ := wv_purse h3
 exact fn_of (ok4 p L q)
end Go.Fx.O
