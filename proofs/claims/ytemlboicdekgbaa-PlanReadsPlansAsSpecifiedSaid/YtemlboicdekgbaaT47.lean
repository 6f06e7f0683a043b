import Derived.Test.YtemlboicdekgbaaTF48
import Derived.Test.YtemlboicdekgbaaFxRunSound
set_option linter.unusedVariables false
set_option linter.unusedSimpArgs false
set_option linter.unusedSectionVars false
open List renaming getD_eq_getElem?_getD → yA, getElem_mem → yC, getElem?_eq_getElem → yF, length_map → yG, length_append → yH, length_cons → yJ, take_of_length_le → yK, mem_cons → yL, map_cons → yM, mem_cons_self → yN, mem_cons_of_mem → yP, append_nil → yQ, length_nil → yS, take_succ_eq_append_getElem → yT, drop_eq_getElem_cons → yU, set_cons_zero → yV, map_append → yY, map_nil → yZ, getElem?_cons_zero → vA, any_cons → vD, any_eq_false → vE, length_drop → vF, replicate → vG, cons_append → vI, ext_getElem → vK, any_eq_true → vL, getElem_of_mem → vM, take → vN, filter_append → vO, length_take → vP, range → vR, map_map → vS, mem_singleton → vT, nodup_iff_pairwise_ne → vV, nil_append → vW, reverse_cons → uA, reverse_nil → uB, drop_zero → uC, take_zero → uD, take_nil → uE, drop_nil → uF, all_cons → uG, all_nil → uH, not_mem_nil → uK, length_replicate → uL, getElem_map → uM, findIdx_cons → uN, map_set → uO, take_length → uP, drop_length → uQ, mem_map → uT, mem_range → uU, set_cons_succ → uW, count_cons → uZ, filter_eq_self → xA, getElem_append_right → xB, map_congr_left → xC, getElem?_append_left → xD, length_pos_iff → xE, length_filter_le → xG, getElem?_cons_succ → xJ, set_append_right → xK, head_eq_of_cons_eq → xL
open Int renaming toNat_natCast → yB, natCast_zero → yD, toNat_of_nonneg → yX, ofNat → vH, le_refl → vQ, toNat → vU, ofNat_eq_natCast → xF
open Option renaming getD_some → yE, map_some → vX, map_none → vY, getD_none → vZ
open Bool renaming false_eq_true → yI, not_true → yW, not_false → vB, and_true → uI, and_self → uJ, and_eq_true → uX, false_or → uY, or_eq_false_iff → xH, and_eq_false_iff → xI
open Nat renaming le_refl → yO, zero_add → vC, add_zero → vJ, zero_le → uS, le_trans → uV
open Prod.mk renaming injEq → uR
namespace Go.Fx.P
open Go Go.Fx Go.Proofs
set_option maxRecDepth 20000
def offB (ps : List Spot) (i : Nat) : Bool := decide (ps.length ≤ i)
section
variable (ps : List Spot) (rs : List Road)
theorem ok77 (i : Nat) : OkN Try.prog 77 [.i i, .ptr 0 0 0] [plB ps rs] [] (IsA (.b (offB ps i)) [plB ps rs]) := by
 refine okN_of pol [0] lw77 (by simp) ⟨trivial, trivial⟩ (by simp) ?_
 unfold c77 plB
 simp -implicitDefEqProofs only [rX,↓rY,ofConst,↓reduceIte,Nat.reduceEqDiff,reduceCtorEq,resP,tupV,leH,leB,leV,leVs,keepP,liveP,wfB,wfV,wfL,cxN,args0,cxN,retP_isA]
 refine fun _ => ?_
 rw [offB, decide_eq_decide]; omega
def firstW (l : List Nat) : Int := if l.any (offB ps) then (l.findIdx (offB ps) : Nat) else -1
theorem ok82w (l : List Nat) (hn : l.length ≤ 4096) : OkN Try.prog 82 [.bro 1 (l.map nE), .clo 77 [.ptr 0 0 0]] [plB ps rs] [] (IsA (.i (firstW ps l)) [plB ps rs]) := by
 refine okN_of pol [0] lw82 (by simp) ⟨trivial, trivial⟩ (by simp) ?_
 unfold c82
 simp -implicitDefEqProofs only [rX,↓rY,ofConst,↓reduceIte,reduceCtorEq,cxN,args0,cxN]
 intro hm
 refine loopP_intro (fun k : Nat => ⟨[(8, .i k), (7, .i l.length), (1, .clo 77 [.ptr 0 0 0]), (0, .bro 1 (l.map nE))], [plB ps rs], 0⟩) (fun k => k ≤ l.length ∧ ∀ j (h : j < l.length), j < k → offB ps l[j] = false) (fun k => l.length - k) 0 (by simp) ?_ ?_
 ·simp -implicitDefEqProofs only [rX,↓reduceIte,Nat.reduceEqDiff,reduceCtorEq,leE,leH,leB,leV,leVs,keepP,liveP,wfE,wfB,wfV,wfL,yD,plB,leVs,leV]
 rintro k ⟨hk, hv⟩
 unfold c82l0
 simp -implicitDefEqProofs only [rX,↓rY,ofConst,↓reduceIte,Nat.reduceEqDiff,reduceCtorEq,nE]
 simp only [br, yB, decide_eq_true_eq, decide_eq_false_iff_not]
 refine ⟨fun h => ⟨⟨by omega, h⟩, by omega, ?_⟩, fun h => ?_⟩
 ·have hk : k < l.length := by omega
  refine call_isN [0] [.i l[k], .ptr 0 0 0] (.b (offB ps l[k])) (.b (offB ps l[k])) [plB ps rs] [plB ps rs] [plB ps rs] (ok77 ps rs l[k]) ⟨by simp, by simp⟩ rfl (by simp [lendsOk, lendOk, lends, lend, wkL, wk, pos]) (by simp) rfl rfl ⟨trivial, trivial⟩ ?_
  cases hb : offB ps l[k] with
  | true =>
   simp -implicitDefEqProofs only [rX,↓rY,↓reduceIte,Nat.reduceEqDiff,resP,tupV,leH,leB,leV,leVs,keepP,liveP,wfB,wfV,wfL,retP_isA]
   have h1 : l.any (offB ps) = true := by
    rw [vL]; exact ⟨_, yC hk, hb⟩
   have h2 : l.findIdx (offB ps) = k := by
    rw [List.findIdx_eq hk]
    exact ⟨hb, fun j hj => hv j (by omega) hj⟩
   simp [firstW, h1, h2]
  | false =>
   simp -implicitDefEqProofs only [rX,↓rY,ofConst,↓reduceIte,Nat.reduceEqDiff,reduceCtorEq,leE,leH,leB,leV,leVs,keepP,liveP,wfE,wfB,wfV,wfL]
   refine ⟨by simp only [lo, Fx.hi, maxLen] at hm ⊢; omega, k + 1, ⟨⟨by omega, fun j hj h2 => ?_⟩, by omega⟩, by simp⟩
   by_cases h3 : j = k
   ·subst h3; exact hb
   ·exact hv j hj (by omega)
 ·have : k = l.length := by omega
  have hall : l.any (offB ps) = false := by
   rw [vE]; intro x hx
   obtain ⟨j, hj, rfl⟩ := vM hx
   simpa using hv j hj (by omega)
  simp -implicitDefEqProofs only [rX,↓reduceIte,resP,tupV,leH,leB,leV,leVs,keepP,liveP,wfB,wfV,wfL,retP_isA]
  simp [firstW, hall]
def keptW (l : List Nat) : List Nat := l.filter fun i => !offB ps i
theorem ok53w (l : List Nat) (hn : l.length ≤ 4096) :
  OkN Try.prog 53 [.sl 1 0 l.length, .clo 77 [.ptr 0 0 0]] [plB ps rs, .arr 1 (l.map nE)] [] (IsQ (fun z : List Nat => True) (fun _ => .sl 1 0 (keptW ps l).length) (fun z => [plB ps rs, .arr 1 ((keptW ps l ++ z).map nE)])) := by
 refine okN_of pol [0, 1] lw53 (by simp) ⟨trivial, trivial, trivial⟩ (by simp; omega) ?_
 unfold c53
 simp -implicitDefEqProofs only [rX,ofConst,↓reduceIte,Nat.reduceEqDiff,Nat.reduceAdd,reduceCtorEq,cxN,args0,cxN]
 have htk : vN l.length (l.map nE) = l.map nE := yK (by simp)
 refine call_isN [0] [.bro 1 (l.map nE), .clo 77 [.ptr 0 0 0]] (.i (firstW ps l)) (.i (firstW ps l)) [plB ps rs] [plB ps rs] _ (ok82w ps rs l hn) ⟨by simp, by simp⟩ rfl (by simp [lendsOk, lendOk, lends, lend, wkL, wk, wkB, wkR, pos, lnat, blk, htk]) (by simp) rfl rfl ⟨trivial, trivial, trivial⟩ ?_
 simp -implicitDefEqProofs only [rX,↓rY,ofConst,↓reduceIte,Nat.reduceEqDiff,Nat.reduceAdd,reduceCtorEq,plB,setAll,renB,rens,ren]
 rw [firstW]
 cases hany : l.any (offB ps) with
 | false =>
  simp only [yI, if_false, beq_self_eq_true, br, true_implies]
  have hk : keptW ps l = l := by
   rw [keptW, xA]
   intro a ha
   have := vE.1 hany a ha
   simpa using this
  refine ⟨?_, fun h => by cases h⟩
  refine retP_isQ (Q := fun _ : List Nat => True) [] trivial ?_
  simp -implicitDefEqProofs only [rX,↓reduceIte,Nat.reduceAdd,resP,tupV,leH,leB,leV,leVs,keepP,liveP,wfB,wfV,wfL,hk]
 | true =>
 obtain ⟨a, ha, hfa⟩ := vL.1 hany
 have hlt : l.findIdx (offB ps) < l.length := List.findIdx_lt_length_of_exists ⟨a, ha, hfa⟩
 generalize hm0 : l.findIdx (offB ps) = m0 at *
 have hne : (((m0 : Nat) : Int) == -1) = false := by simp
 simp only [if_true, hne, br, yI, false_implies, true_implies, true_and]
 refine ⟨by simp only [lo, Fx.hi]; omega, ?_⟩
 have hpre : (l.take (m0 + 1)).filter (fun i => !offB ps i) = l.take m0 := by
  rw [yT hlt, vO, xA.2]
  ·have : offB ps (l[m0]) = true := by subst hm0; exact List.findIdx_getElem
   simp [this]
  ·intro a ha
   obtain ⟨j, hj, rfl⟩ := vM ha
   rw [List.getElem_take]
   have := List.not_of_lt_findIdx (p := offB ps) (xs := l) (i := j) (by rw [hm0]; rw [vP] at hj; omega)
   simpa using this
 refine loopP_intro (fun g : Nat × List Nat => ⟨[(6, .i g.1), (5, .i ((l.take g.1).filter fun i => !offB ps i).length), (0, .sl 1 0 l.length), (1, .clo 77 [.ptr 0 0 0])], [plB ps rs, .arr 1 (((l.take g.1).filter (fun i => !offB ps i) ++ g.2 ++ l.drop g.1).map nE)], 0⟩) (fun g => g.1 ≤ l.length ∧ 0 < g.2.length ∧ ((l.take g.1).filter fun i => !offB ps i).length + g.2.length = g.1) (fun g => l.length - g.1) (m0 + 1, [l[m0]]) ⟨by omega, by simp, by rw [hpre]; simp; omega⟩ ?_ ?_
 ·simp -implicitDefEqProofs only [rX,↓reduceIte,Nat.reduceEqDiff,reduceCtorEq,leE,leH,leB,leV,leVs,keepP,liveP,wfE,wfB,wfV,wfL,plB,hpre]
  refine ⟨⟨by omega, by rw [vP]; omega⟩, ?_⟩
  congr 2
  rw [List.append_assoc]
  simp
 rintro ⟨j, mid⟩ ⟨hj, hmid, hlen⟩
 simp only at hj hmid hlen
 unfold c53l0
 generalize hA : (l.take j).filter (fun i => !offB ps i) = A at *
 simp -implicitDefEqProofs only [rX,↓rY,↓reduceIte,Nat.reduceEqDiff,arrSz,Nat.reduceAdd,reduceCtorEq,slcOk,plB]
 intro hmx
 simp only [br, decide_eq_true_eq, decide_eq_false_iff_not]
 refine ⟨fun h => ?_, fun h => ?_⟩
 ·have hj2 : j < l.length := by omega
  have hLl : (A ++ mid ++ l.drop j).length = l.length := by simp; omega
  have hLj : (A ++ mid ++ l.drop j)[j]'(by omega) = l[j] := by
   rw [xB (by simp; omega)]
   simp [show j - (A.length + mid.length) = 0 by omega]
  refine ⟨⟨by omega, h⟩, by rw [vF]; omega, ?_⟩
  rw [hLj]
  simp -implicitDefEqProofs only [rX,↓rY,nE]
  refine call_isN [0] [.i l[j], .ptr 0 0 0] (.b (offB ps l[j])) (.b (offB ps l[j])) [plB ps rs] [plB ps rs] _ (ok77 ps rs l[j]) ⟨by simp, by simp⟩ rfl (by simp [lendsOk, lendOk, lends, lend, wkL, wk, pos]) (by simp) rfl rfl ⟨trivial, trivial, trivial⟩ ?_
  have hA1 : (l.take (j + 1)).filter (fun i => !offB ps i) = A ++ (if offB ps l[j] = true then [] else [l[j]]) := by
   rw [yT hj2, vO, hA]
   cases hfb : offB ps l[j] <;> simp [hfb]
  have hd : l.drop j = l[j] :: l.drop (j + 1) := yU hj2
  cases hb : offB ps l[j] with
  | true =>
   rw [hb, if_pos rfl, yQ] at hA1
   simp -implicitDefEqProofs only [rX,↓rY,ofConst,↓reduceIte,Nat.reduceEqDiff,Nat.reduceAdd,reduceCtorEq,leE,leH,leB,leV,leVs,keepP,liveP,wfE,wfB,wfV,wfL,plB,setAll,renB,rens,ren]
   refine ⟨by simp only [lo, Fx.hi]; omega, (j + 1, mid ++ [l[j]]), ?_, ?_⟩
   ·simp only [hA1, yH, yJ, yS]
    omega
   ·simp -implicitDefEqProofs only [rX,hA1]
    refine ⟨by omega, ?_⟩
    congr 2
    rw [hd]; simp
  | false =>
   rw [hb, if_neg (by simp)] at hA1
   simp -implicitDefEqProofs only [rX,↓rY,ofConst,cells?,splice,↓reduceIte,Nat.reduceEqDiff,arrSz,Nat.reduceAdd,reduceCtorEq,leE,leH,leB,leV,leVs,keepP,liveP,wfE,wfB,wfV,wfL,isD,isC,plB,setAll,renB,rens,ren]
   obtain ⟨x, ms, rfl⟩ : ∃ x ms, mid = x :: ms := by
    cases mid with
    | nil => simp at hmid
    | cons x ms => exact ⟨x, ms, rfl⟩
   simp only [yJ] at hlen
   refine ⟨⟨by omega, by omega⟩, by rw [vF, yJ]; omega, by simp only [lo, Fx.hi]; omega, by simp only [lo, Fx.hi]; omega, (j + 1, ms ++ [l[j]]), ?_, ?_⟩
   ·simp only [hA1, yH, yJ, yS]
    omega
   ·simp only [hA1, yH, yJ, yS]
    refine ⟨⟨by omega, by omega⟩, ?_⟩
    congr 1
    have e : (V.v (.int .i64 ((l[j] : Nat) : Int)) :: List.drop 1 (nE ((A ++ x :: ms ++ l.drop j)[A.length]'(by simp)))) = nE l[j] := rfl
    rw [e, ← uO]
    congr 1
    rw [hd]
    simp
 ·have hj3 : j = l.length := by omega
  subst hj3
  rw [uP] at hA
  have hk : keptW ps l = A := hA
  refine ⟨⟨⟨by omega, by omega⟩, by omega⟩, by rw [vF]; omega, ⟨⟨by omega, by omega⟩, by omega, by omega⟩, ?_⟩
  refine retP_isQ (Q := fun _ : List Nat => True) (vG (l.length - A.length) 0) trivial ?_
  rw [hk, uQ, yQ]
  have e1 : vN A.length ((A ++ mid).map nE) = A.map nE := by simp
  have e2 : List.drop (A.length + (l.length - A.length)) ((A ++ mid).map nE) = [] := List.drop_of_length_le (by simp; omega)
  rw [e1, e2]
  simp -implicitDefEqProofs only [rX,↓reduceIte,Nat.reduceAdd,resP,tupV,leH,leB,leV,leVs,keepP,liveP,wfB,wfV,wfL,yY,List.map_replicate]
  refine ⟨rfl, ?_⟩
  rfl
end
theorem FVal {N : Nat} {arcs : List Arc} (h : K.Val N arcs) : F.Val N arcs := ⟨h.hn, h.hl, fun a ha => by
 obtain ⟨h1, h2, h3, h4, h5⟩ := h.ha a ha
 exact ⟨⟨h1, h2, h3⟩, h4⟩⟩
theorem valFK (arcs : List Arc) (x : Int) (fl : List Int) : ∀ k, F.valTo arcs x fl k = K.valTo arcs x fl k
 | 0 => rfl
 | k + 1 => by simp only [F.valTo, K.valTo, valFK arcs x fl k]
theorem check_flow {N : Nat} {arcs : List Arc} {f t : Int} {fl : List Int} (h : F.checkI N arcs f t fl = 0) : ∀ j : Int, 0 ≤ j → j < N → j ≠ f → j ≠ t → F.valTo arcs j fl arcs.length = 0 := by
 unfold F.checkI at h
 split at h
 ·simp at h
 ·split at h
  ·simp at h
  ·split at h
   ·rename_i h3; exact h3.1
   ·simp at h
theorem check_ok {N : Nat} {arcs : List Arc} {f t : Int} {fl : List Int} (he : F.endsB N f t = true) (h : K.OkF N arcs f t fl) (h0 : 0 ≤ K.valTo arcs f fl arcs.length) : F.checkI N arcs f t fl = 0 := by
 unfold F.checkI
 rw [if_neg (by simp [he, h.hl]), if_neg (fun hh => hh h.hp), if_pos]
 exact ⟨fun j a b c d => by rw [valFK]; exact h.hz j a b c d, by rw [valFK]; exact h0⟩
end Go.Fx.P
namespace Go.Fx.P.F
open Go Go.Fx Go.Proofs
section
variable {N : Nat} {arcs : List Arc} {f t : Int}
theorem tk_le {rest : List Int} {w : List Nat} (hnd : w.Nodup) (hw : ∀ i ∈ w, i < rest.length) (h0 : 0 ≤ tkN rest w) (q : Nat) : (tkR rest w).getD q 0 ≤ rest.getD q 0 := by
 unfold tkR
 rw [tkAll_get hnd hw]
 split <;> omega
def AttOk2 (N : Nat) (arcs : List Arc) (f t : Int) (rest : List Int) (r : List Int × Option (List Nat)) : Prop :=
 (∃ w, r = (rest, some w) ∧ Wv N arcs f rest w t) ∨ (∃ rest', r = (rest', none) ∧ ∀ q, rest'.getD q 0 ≤ rest.getD q 0)
theorem att_ok2 (hV : Val N arcs) (hft : f ≠ t) {rest : List Int} (hF : Fv N arcs f t rest) (hv : 0 < valTo arcs f rest arcs.length) : ∀ (n : Nat) (way : List Nat) (at_ : Int), Wv N arcs f rest way at_ → N + 1 = way.length + n → AttOk2 N arcs f t rest (att arcs t n rest way at_)
 | 0, way, at_, hW, hn => by
  have := hW.len hV
  omega
 | n + 1, way, at_, hW, hn => by
  unfold att
  by_cases hat : at_ = t
  ·rw [if_pos hat]
   exact .inl ⟨way, rfl, hat ▸ hW⟩
  ·rw [if_neg hat]
   obtain ⟨i, hi⟩ := first_ex hF hv hW hat
   rw [hi]
   simp only
   cases hs : seenI arcs (way ++ [i]) (gA arcs i).to with
   | none => exact att_ok2 hV hft hF hv n (way ++ [i]) _ (hW.more hV hi hs) (by simp; omega)
   | some k =>
    obtain ⟨hk, h1, _⟩ := seen_is hs
    obtain ⟨g1, g2, g3⟩ := hW.half hi
    have hd := isW_drop g1 hk
    rw [h1] at hd
    have hne : (way ++ [i]).drop k ≠ [] := by
     intro e
     have := congrArg List.length e
     rw [vF, yS] at this
     omega
    have hnd : ((way ++ [i]).drop k).Nodup := List.Nodup.sublist (List.drop_sublist _ _) (nodup_of_map g3)
    have hp : ∀ j ∈ (way ++ [i]).drop k, j < arcs.length ∧ 0 < rest.getD j 0 := fun j hj => g2 j (List.mem_of_mem_drop hj)
    have hto := take_ok hF hd hne hnd hp
    exact .inr ⟨_, rfl, tk_le hnd (fun j hj => by rw [hF.len]; exact (hp j hj).1) (Int.le_of_lt hto.1)⟩
theorem PW.ok2 (hV : Val N arcs) (hf : 0 ≤ f ∧ f < N) (hft : f ≠ t) {rest rest1 : List Int} {w : List Nat} (h : PW N arcs f t rest rest1 w) : Fv N arcs f t rest → 0 < valTo arcs f rest arcs.length →
  Fv N arcs f t rest1 ∧ valTo arcs f rest1 arcs.length = valTo arcs f rest arcs.length ∧ Wv N arcs f rest1 w t ∧ ∀ q, rest1.getD q 0 ≤ rest.getD q 0 := by
 induction h with
 | way h =>
  intro hF hv
  rcases att_ok2 hV hft hF hv (N + 1) [] f (Wv.begin hf _) (by simp) with ⟨w', h1, h2⟩ | ⟨_, h1, _⟩
  ·rw [h] at h1
   simp only [uR, Option.some.injEq, true_and] at h1
   subst h1
   exact ⟨hF, rfl, h2, fun _ => vQ _⟩
  ·rw [h] at h1
   simp at h1
 | circ h _ ih =>
  intro hF hv
  rcases att_ok hV hft hF hv (N + 1) [] f (Wv.begin hf _) (by simp) with ⟨w', h1, _⟩ | ⟨r2, h1, h2, h3, h4⟩
  ·rw [h] at h1
   simp at h1
  ·rw [h] at h1
   simp only [uR, and_true] at h1
   subst h1
   rcases att_ok2 hV hft hF hv (N + 1) [] f (Wv.begin hf _) (by simp) with ⟨w', h5, _⟩ | ⟨r3, h5, h6⟩
   ·rw [h] at h5
    simp at h5
   ·rw [h] at h5
    simp only [uR, and_true] at h5
    subst h5
    obtain ⟨g1, g2, g3, g4⟩ := ih h2 (by omega)
    exact ⟨g1, by omega, g3, fun q => Int.le_trans (g4 q) (h6 q)⟩
def useN : List (List Nat) → List Int → Nat → Int
 | w :: ws, m :: ms, q => (if q ∈ w then m else 0) + useN ws ms q
 | _, _, _ => 0
def totN : List Int → Int
 | [] => 0
 | m :: ms => m + totN ms
structure Way (arcs : List Arc) (f t : Int) (w : List Nat) : Prop where
 walk : isW arcs f w t
 ne : w ≠ []
 lt : ∀ j ∈ w, j < arcs.length
 nod : (w.map fun i => (gA arcs i).from_).Nodup
 new : t ∉ w.map fun i => (gA arcs i).from_
structure Good (arcs : List Arc) (f t : Int) (rest : List Int) (ws : List (List Nat)) (ns : List Int) : Prop where
 len : ns.length = ws.length
 cnt : ws.length ≤ cnt rest arcs.length
 way : ∀ w ∈ ws, Way arcs f t w
 num : ∀ m ∈ ns, 0 < m ∧ m ≤ 1073741824
 use : ∀ q, useN ws ns q ≤ rest.getD q 0
 tot : ∃ v, valTo arcs f rest arcs.length = totN ns + v ∧ v ≤ 0
theorem PR.good (hV : Val N arcs) (hf : 0 ≤ f ∧ f < N) (hft : f ≠ t) {rest : List Int} {ws : List (List Nat)} {ns : List Int} (h : PR N arcs f t rest ws ns) : Fv N arcs f t rest → Good arcs f t rest ws ns := by
 induction h with
 | @stop rest h =>
  intro hF
  exact ⟨rfl, uS _, by simp, by simp, fun q => by simp only [useN]; exact (hF.rng q).1, _, (Int.zero_add _).symm, h⟩
 | @step rest rest1 w ws ns h h2 _ ih =>
  intro hF
  obtain ⟨g1, g2, g3, g4⟩ := h2.ok2 hV hf hft hF h
  have hne : w ≠ [] := by
   intro e
   have := g3.walk
   rw [e] at this
   exact hft this
  have hnd := nodup_of_map g3.nod
  have hto := take_ok g1 g3.walk hne hnd g3.pos
  have hFv := take_Fv g1 g3.walk hne hnd g3.pos (.inr ⟨rfl, rfl⟩)
  have ih := ih hFv
  have hc1 : F.cnt rest1 arcs.length ≤ F.cnt rest arcs.length := cnt_le g4 _
  have htk := tkN_is (rest := rest1) hne
  have hr1 : ∀ q, (tkR rest1 w).getD q 0 = rest1.getD q 0 - (if q ∈ w then tkN rest1 w else 0) := fun q => by
   unfold tkR
   rw [tkAll_get hnd (fun i hi => by rw [g1.len]; exact (g3.pos i hi).1)]
  obtain ⟨v, hv1, hv2⟩ := ih.tot
  refine ⟨by simp [ih.len], ?_, ?_, ?_, fun q => ?_, v, ?_, hv2⟩
  ·have := ih.cnt
   have := hto.2.2.2.1
   simp only [yJ]; omega
  ·intro w' hw'
   rcases yL.1 hw' with rfl | hw'
   ·exact ⟨g3.walk, hne, fun j hj => (g3.pos j hj).1, g3.nod, g3.new⟩
   ·exact ih.way _ hw'
  ·intro m hm
   rcases yL.1 hm with rfl | hm
   ·obtain ⟨i, hi, e⟩ := htk.2
    have := g1.rng i
    omega
   ·exact ih.num _ hm
  ·have h5 := ih.use q
   have h6 := g4 q
   rw [hr1] at h5
   simp only [useN]
   omega
  ·have h7 := hto.2.2.2.2 f
   rw [if_pos rfl, if_neg (fun e => hft e.symm)] at h7
   simp only [totN]
   omega
end
end Go.Fx.P.F
namespace Go.Fx.P
open Go Go.Fx Go.Proofs
set_option maxRecDepth 20000
def findW (arcs : List Arc) (tgt : Int) : List (List Nat) → List Int → Int → Option (List Nat)
 | w :: ws, m :: ms, n => if (F.gA arcs (w.getD 0 0)).to = tgt then (if n < m then some w else findW arcs tgt ws ms (n - m)) else findW arcs tgt ws ms n
 | _, _, _ => none
def rt (ps : List Spot) (arcs : List Arc) (ws : List (List Nat)) (ns : List Int) (place n : Int) : List Nat × Int :=
 if place < 0 ∨ (ps.length : Int) ≤ place ∨ isK ps 1 place.toNat = false then ([], 5) else
 if n < 0 then ([], 1) else
 match findW arcs (2 + 2 * place) ws ns n with
 | some w => (keptW ps w, 0)
 | none => ([], 1)
section
variable (ps : List Spot) (rs : List Road) (fr : Fr)
theorem ok50 (place : Int) : Ok 50 [plant ps rs, fr.enc, .i place] (IsA (.clo 75 [.ptr 0 0 0, .ptr 1 0 0, .ptr 2 0 0]) [plB ps rs, K.frB fr, .var [.i place]]) := by
 refine ok_of lw50 (by simp) ?_
 unfold c50 plant sps rds Fr.enc li
 simp -implicitDefEqProofs only [rX,↓rY,ofConst,cells?,↓reduceIte,Nat.reduceEqDiff,Nat.reduceAdd,reduceCtorEq,freshP,resP,tupV,leH,leB,leV,leVs,keepP,liveP,wfB,wfV,wfL,Nat.reduceLeDiff,cxN,args0,retP_isA,K.frB]
def wcsB (b : Nat) (ws : List (List Nat)) : List (List V) := (vR ws.length).map fun j => [.sl (j + b) 0 (ws.getD j []).length]
theorem wcs_up {ws : List (List Nat)} {n : Nat} : (F.wcs ws).map (rens (fun j => some (n + j))) = wcsB (n + 8) ws := by
 unfold F.wcs wcsB
 rw [vS]
 refine xC fun j _ => ?_
 simp [rens, ren]; omega
theorem wtl_up {ws : List (List Nat)} {g : Nat → Option Nat} : (F.wtl ws).map (renB g) = F.wtl ws := by
 unfold F.wtl
 rw [vS]; rfl
abbrev envR : Env := [(9, .ptr 4 0 0), (8, .ptr 3 0 0), (7, .ptr 2 0 0)]
abbrev hpR (place n : Int) (T : List Blk) : List Blk := .dead :: .dead :: .var [.i n] :: .var [.nil] :: .var [.i 0] :: plB ps rs :: K.frB fr :: .var [.i place] :: .rcd .ready envR :: T
abbrev hpW (ws : List (List Nat)) (ns : List Int) (T : List Blk) : List Blk := .var [.i (nN ps), .ro 4 ((netOf ps rs).map Arc.enc)] :: .dead :: .dead :: .dead :: .dead :: .arv 1 (wcsB 18 ws) :: .arr 1 (ns.map encI) :: .dead :: .dead :: T
structure TOk (ws : List (List Nat)) (i : Nat) (T : List Blk) : Prop where
 len : T.length = ws.length
 arr : ∀ b ∈ T, ∃ els, b = .arr 1 els
 at_ : ∀ j, i ≤ j → (h : j < ws.length) → T[j]? = some (.arr 1 (F.rows ws[j]))
theorem TOk.next {ws : List (List Nat)} {i : Nat} {T : List Blk} (h : TOk ws i T) : TOk ws (i + 1) T := ⟨h.len, h.arr, fun j hj => h.at_ j (by omega)⟩
theorem TOk.put {ws : List (List Nat)} {i : Nat} {T : List Blk} (h : TOk ws i T) (els : List (List V)) : TOk ws (i + 1) (T.set i (.arr 1 els)) := by
 refine ⟨by simp [h.len], fun b hb => ?_, fun j hj hlt => ?_⟩
 ·rcases List.mem_or_eq_of_mem_set hb with hb | rfl
  ·exact h.arr b hb
  ·exact ⟨_, rfl⟩
 ·rw [List.getElem?_set_ne (by omega)]
  exact h.at_ j (by omega) hlt
theorem TOk.first (ws : List (List Nat)) : TOk ws 0 (F.wtl ws) := ⟨F.wtl_len, fun b hb => F.wtl_all hb, fun j _ h => by simp [F.wtl, h]⟩
theorem TOk.le {ws : List (List Nat)} {i : Nat} {T l : List Blk} (h : TOk ws i T) : leH (T ++ l) T := F.arr_leH h.arr
theorem TOk.le0 {ws : List (List Nat)} {i : Nat} {T : List Blk} (h : TOk ws i T) : leH T T := by
 have := h.le (l := [])
 rwa [yQ] at this
theorem get18 {α : Type} {a b c d e f g h i j k l m n o p q r : α} {L : List α} {x : Nat} : (a :: b :: c :: d :: e :: f :: g :: h :: i :: j :: k :: l :: m :: n :: o :: p :: q :: r :: L)[x + 18]? = L[x]? := rfl
theorem set18 {α : Type} {a b c d e f g h i j k l m n o p q r y : α} {L : List α} {x : Nat} : (a :: b :: c :: d :: e :: f :: g :: h :: i :: j :: k :: l :: m :: n :: o :: p :: q :: r :: L).set (x + 18) y = a :: b :: c :: d :: e :: f :: g :: h :: i :: j :: k :: l :: m :: n :: o :: p :: q :: r :: L.set x y := rfl
theorem wcsB_len {b : Nat} {ws : List (List Nat)} : (wcsB b ws).length = ws.length := by simp [wcsB]
theorem wcsB_get {b i : Nat} {ws : List (List Nat)} (h : i < (wcsB b ws).length) : (wcsB b ws)[i] = [.sl (i + b) 0 (ws[i]'(by simpa [wcsB] using h)).length] := by
 have : i < ws.length := by simpa [wcsB] using h
 simp [wcsB, this]
theorem wcsB_kill {b : Nat} {ws : List (List Nat)} {M : List Nat} (h : ∀ k ∈ M, k < b) : (wcsB b ws).map (kills M) = wcsB b ws := by
 unfold wcsB
 rw [vS]
 refine xC fun j _ => ?_
 have : ¬ (j + b) ∈ M := fun hm => by have := h _ hm; omega
 simp [kills, kill, this]
theorem wcsB_wfl {ws : List (List Nat)} {i : Nat} {T L : List Blk} (hT : TOk ws i T) {a b c d e f g h i' j k l m n o p q r : Blk} : wfL (a :: b :: c :: d :: e :: f :: g :: h :: i' :: j :: k :: l :: m :: n :: o :: p :: q :: r :: (T ++ L)) (wcsB 18 ws).flatten := by
 refine F.wfL_all fun x hx => ?_
 rw [List.mem_flatten] at hx
 obtain ⟨M, h1, h2⟩ := hx
 unfold wcsB at h1
 rw [uT] at h1
 obtain ⟨v, hv, rfl⟩ := h1
 rw [uU] at hv
 rw [vT] at h2
 subst h2
 have hv2 : v < T.length := by rw [hT.len]; exact hv
 obtain ⟨els, he⟩ := hT.arr _ (yC hv2)
 simp only [wfV, liveP, get18, xD hv2, yF hv2, he]
theorem wcsB_wf {ws : List (List Nat)} {i : Nat} {T : List Blk} (hT : TOk ws i T) {a b c d e f g h i' j k l m n o p q r : Blk} : wfL (a :: b :: c :: d :: e :: f :: g :: h :: i' :: j :: k :: l :: m :: n :: o :: p :: q :: r :: T) (wcsB 18 ws).flatten := by
 have := wcsB_wfl hT (L := []) (a := a) (b := b) (c := c) (d := d) (e := e) (f := f) (g := g) (h := h) (i' := i') (j := j) (k := k) (l := l) (m := m) (n := n) (o := o) (p := p) (q := q) (r := r)
 rwa [yQ] at this
theorem arr_wfl {q L : List Blk} (hL : wfB q L) : ∀ {l : List Blk}, (∀ b ∈ l, ∃ els, b = .arr 1 els) → wfB q (l ++ L)
 | [], _ => hL
 | b :: r, h => by
  obtain ⟨els, rfl⟩ := h b yN
  exact arr_wfl hL (l := r) fun b hb => h b (yP _ hb)
theorem ok24 (h : IsPlan ps rs fr) (place n : Int) (hnb : n ≤ 9223372036854775807) (ws : List (List Nat)) (ns : List Int) (hR : F.PR (nN ps) (netOf ps rs) 0 1 fr.flow ws ns) :
  Ok 24 [plant ps rs, fr.enc, .i place, .i n] (Is (.tup [lnat (rt ps (netOf ps rs) ws ns place n).1, .i (rt ps (netOf ps rs) ws ns place n).2])) := by
 refine okN_give (R := fun r hs => wk (.tup [lnat (rt ps (netOf ps rs) ws ns place n).1, .i (rt ps (netOf ps rs) ws ns place n).2]) (gvV (fun _ => true) hs r)) ?_ fun _ _ h => h
 refine ok_of lw24 (by simp) ?_
 unfold c24 plant sps rds Fr.enc li
 simp -implicitDefEqProofs only [rX,↓rY,rZ,ofConst,cells?,splice,↓reduceIte,Nat.reduceEqDiff,Nat.reduceAdd,reduceCtorEq,freshP,isC,cxN,args0]
 simp only [br, decide_eq_true_eq, decide_eq_false_iff_not, beq_iff_eq, bne_iff_ne, bne_eq_false_iff_eq, yB]
 have early : ∀ (h' : List Blk) (e' : Env) (b' : Nat) (q : Int), (rt ps (netOf ps rs) ws ns place n) = ([], q) → h'[3]? = some (.var [.nil]) → h'[4]? = some (.var [.i q]) → get e' 8 = .ptr 3 0 0 → get e' 9 = .ptr 4 0 0 →
   retP [] 0 [LRes.cell 8 none, LRes.cell 9 none] (fun r hs => wk (.tup [lnat (rt ps (netOf ps rs) ws ns place n).1, .i (rt ps (netOf ps rs) ws ns place n).2]) (gvV (fun _ => true) hs r)) ⟨e', h', b'⟩ := by
  intro h' e' b' q hq h3 h4 g8 g9
  rw [retP_eq]
  have b3 : blk h' 3 = .var [.nil] := by rw [blk, yA, h3]; rfl
  have b4 : blk h' 4 = .var [.i q] := by rw [blk, yA, h4]; rfl
  simp only [resP, g8, g9, qad, b3, b4]
  simp -implicitDefEqProofs only [rX,↓rY,tupV,keepP,wfV,wfL]
  refine ⟨[], ⟨by cases h' <;> simp [leH], by simp, trivial⟩, ?_⟩
  rw [hq]
  simp [gvV, gvL, wk, wkL, wkR, lnat]
 have hk : ∀ i (hi : i < ps.length), isK ps 1 i = (ps[i].kind == 1) := fun i hi => isK_lt hi
 refine ⟨fun h1 => early _ _ _ 5 (by rw [rt, if_pos (.inl h1)]) rfl rfl rfl rfl, fun h1 hm => ⟨fun h2 => early _ _ _ 5 (by rw [rt, if_pos (.inr (.inl h2))]) rfl rfl rfl rfl, fun h2 => ⟨⟨by omega, by omega⟩, by omega, fun h3 => early _ _ _ 5 (by rw [rt, if_pos (.inr (.inr (by rw [hk _ (by omega)]; simpa using h3)))]) rfl rfl rfl rfl, fun h3 => ?_⟩⟩⟩
 have h0 : ¬ (place < 0 ∨ (ps.length : Int) ≤ place ∨ isK ps 1 place.toNat = false) := by
  rw [hk _ (by omega)]
  simp [h3]; omega
 refine ⟨fun h4 => early _ _ _ 1 (by rw [rt, if_neg h0, if_pos h4]) rfl rfl rfl rfl, fun h4 => ?_⟩
 refine call_isA [plant ps rs, fr.enc, .i place] (.clo 75 [.ptr 0 0 0, .ptr 1 0 0, .ptr 2 0 0]) (.clo 75 [.ptr 5 0 0, .ptr 6 0 0, .ptr 7 0 0]) [plB ps rs, K.frB fr, .var [.i place]] [plB ps rs, K.frB fr, .var [.i place]] (ok50 ps rs fr place) (by simp [plant, sps, rds, Fr.enc, li, lendsOk, lendOk, lends, lend, wkL, wk, wkR]) rfl rfl trivial ?_
 simp -implicitDefEqProofs only [rX]
 refine rfn_go 8 rfl rfl trivial ?_
 have hc := h.chk
 obtain ⟨⟨hl1, hl2⟩, hcap, hv⟩ := chk_caps hc
 have hV := net_val hc
 have hVF := FVal hV
 have hb : nN ps ≤ 64 ∧ (netOf ps rs).length ≤ 100 := by
  have := nA4_len (ps := ps) (l := rs)
  have := h.few
  simp only [nN, netOf]; omega
 have eN : ((nN ps : Nat) : Int) = 2 + 2 * ps.length := by simp [nN]
 have hE : ((0 : Int) ≤ 0 ∧ (0 : Int) < nN ps) ∧ ((0 : Int) ≤ 1 ∧ (1 : Int) < nN ps) ∧ (0 : Int) ≠ 1 := by omega
 have he : F.endsB (nN ps) 0 1 = true := by simpa [F.endsB] using hE
 have hck : F.checkI (nN ps) (netOf ps rs) 0 1 fr.flow = 0 := check_ok he h.acc.fl (by rw [h.acc.hv]; exact h.acc.hs.1)
 have e76 := okN_post (F.ok76 (nN ps) (netOf ps rs) 0 1 fr.flow ws ns hVF hck hR) (R' := IsA _ _) fun r h' ⟨_, _, q1, q2⟩ => ⟨q1, q2⟩
 have hG := hR.good hVF hE.1 hE.2.2 (F.flow_Fv hVF hck)
 have hwl : ws.length ≤ (netOf ps rs).length := uV hG.cnt (F.cnt_all _ _)
 refine I0_le (h' := hpR ps rs fr place n []) ?_ ?_ ?_ ?_ ?_
 ·simp -implicitDefEqProofs only [rX,↓reduceIte,Nat.reduceEqDiff,leE,leH,leB,leV,leVs,K.frB,or_true]
 ·simp [keepP, liveP]
 ·simp -implicitDefEqProofs only [rX,liveP,wfE,wfB,wfV,wfL,K.frB]
 ·simp -implicitDefEqProofs only [rX,liveP,wfV,wfL,K.frB]
 refine itN_of pol [8] lw75 (by simp) ?_
 unfold c75 hpR
 simp -implicitDefEqProofs only [rX,↓rY,ofConst,cells?,↓reduceIte,Nat.reduceAdd,reduceCtorEq,args0]
 refine call_is (ok15 ps rs hl1 hl2 hv) (by simp [plant, sps, rds, lendsOk, lendOk, lends, lend, wkL, wk, wkR]) rfl (by simp [keepP, liveP]) ?_
 simp -implicitDefEqProofs only [rX,↓rY,ofConst,cells?,splice,↓reduceIte,Nat.reduceEqDiff,Nat.reduceAdd,reduceCtorEq,freshP,isC,net,K.frB]
 rw [nN_eq]
 by_cases hw : ws = []
 ·subst hw
  have hwr : F.wsR [] = .nil := rfl
  have hwb : F.wsB [] = .dead := rfl
  have hwt : F.wtl [] = [] := rfl
  rw [hwr, hwb, hwt] at e76
  refine call_isA [.agg [.i (nN ps), .ro 4 ((netOf ps rs).map Arc.enc)], .i 0, .i 1, li fr.flow] (.tup [.nil, .sl 5 0 ns.length, .i 0]) (.tup [.nil, .sl 15 0 ns.length, .i 0]) [.dead, .dead, .dead, .dead, .dead, .arr 1 (ns.map encI), .dead, .dead] [.dead, .dead, .dead, .dead, .dead, .arr 1 (ns.map encI), .dead, .dead] e76 (by simp [li, lendsOk, lendOk, lends, lend, wkL, wk, wkR]) rfl (by simp [renB]) (by simp [keepP, liveP]) ?_
  simp -implicitDefEqProofs only [rX,↓rY,ofConst,↓reduceIte,Nat.reduceEqDiff,Nat.reduceAdd]
  have hrt : rt ps (netOf ps rs) [] ns place n = ([], 1) := by
   rw [rt, if_neg h0, if_neg h4, findW]
   intro a b c d e
   cases e
  refine loopP_intro (fun _ : Unit => ⟨[(23, .i 0), (22, .i 0)], hpR ps rs fr place n [], 0⟩) (fun _ => True) (fun _ => 0) () trivial ?_ ?_
  ·simp -implicitDefEqProofs only [rX,↓reduceIte,Nat.reduceEqDiff,leE,leH,leB,leV,leVs,keepP,liveP,wfE,wfB,wfV,wfL,K.frB]
   exact .inl trivial
  rintro ⟨⟩ _
  unfold c75l0 hpR
  have hlt : decide ((0 : Int) < 0) = false := rfl
  simp -implicitDefEqProofs only [rX,↓rY,splice,↓reduceIte,Nat.reduceEqDiff,Nat.reduceAdd,liveP,wfE,wfB,wfV,wfL,isC,Nat.reduceLT,K.frB,hlt]
  exact early _ _ _ 1 hrt rfl rfl rfl rfl
 have hwr : F.wsR ws = .sl 4 0 ws.length := if_neg hw
 have hwb : F.wsB ws = .arv 1 (F.wcs ws) := if_neg hw
 rw [hwr, hwb] at e76
 refine call_isA [.agg [.i (nN ps), .ro 4 ((netOf ps rs).map Arc.enc)], .i 0, .i 1, li fr.flow] (.tup [.sl 4 0 ws.length, .sl 5 0 ns.length, .i 0]) (.tup [.sl 14 0 ws.length, .sl 15 0 ns.length, .i 0]) (.dead :: .dead :: .dead :: .dead :: .arv 1 (F.wcs ws) :: .arr 1 (ns.map encI) :: .dead :: .dead :: F.wtl ws) (.dead :: .dead :: .dead :: .dead :: .arv 1 (wcsB 18 ws) :: .arr 1 (ns.map encI) :: .dead :: .dead :: F.wtl ws) e76 (by simp [li, lendsOk, lendOk, lends, lend, wkL, wk, wkR]) rfl (by simp [renB, wcs_up, wtl_up]) (by simp [keepP, liveP]) ?_
 simp -implicitDefEqProofs only [rX,↓rY,ofConst,↓reduceIte,Nat.reduceEqDiff]
 refine fun hm2 => ?_
 refine loopP_intro (fun g : Nat × Int × List Blk => ⟨[(23, .i g.1), (22, .i ws.length), (21, .sl 14 0 ws.length), (7, .sl 15 0 ns.length), (5, .ptr 9 0 0), (3, .ptr 7 0 0), (1, .ptr 5 0 0), (0, .itr 8)], hpR ps rs fr place g.2.1 (hpW ps rs ws ns g.2.2), 0⟩) (fun g => g.1 ≤ ws.length ∧ (0 ≤ g.2.1 ∧ g.2.1 ≤ n ∧ findW (netOf ps rs) (2 + 2 * place) (ws.drop g.1) (ns.drop g.1) g.2.1 = findW (netOf ps rs) (2 + 2 * place) ws ns n) ∧ TOk ws g.1 g.2.2) (fun g => ws.length - g.1) (0, n, F.wtl ws) ⟨uS _, ⟨by show 0 ≤ n; omega, vQ _, rfl⟩, TOk.first ws⟩ ?_ ?_
 ·simp -implicitDefEqProofs only [rX,↓reduceIte,Nat.reduceEqDiff,reduceCtorEq,leE,leH,leB,leV,leVs,keepP,liveP,wfE,wfB,wfV,wfL,yD,K.frB]
  exact ⟨⟨.inl trivial, F.leH_wtl0⟩, wcsB_wf (TOk.first ws), F.wtl_wf⟩
 rintro ⟨i, m, T⟩ ⟨hi, ⟨hm0, hmn, hf⟩, hT⟩
 simp only at hi hm0 hmn hf hT
 unfold c75l0 hpR hpW
 simp -implicitDefEqProofs only [rX,↓rY,rZ,rdK,ofConst,splice,↓reduceIte,Nat.reduceEqDiff,arrSz,reduceCtorEq,leE,leH,leB,leV,leVs,keepP,liveP,wfE,wfB,wfV,wfL,isC,K.frB,wcsB_len,wcsB_get,get18]
 simp only [br, decide_eq_true_eq, decide_eq_false_iff_not]
 refine ⟨fun hlt => ?_, fun hge => ?_⟩
 ·have hi2 : i < ws.length := by omega
  have hTi := hT.at_ i (yO _) hi2
  have hw := hG.way _ (yC hi2)
  have h0w : 0 < (ws[i]).length := xE.2 hw.ne
  have hw0 := hw.lt _ (yC h0w)
  have hin : i < ns.length := by rw [hG.len]; exact hi2
  have hnr := hG.num _ (yC hin)
  refine ⟨⟨by omega, hlt⟩, hi2, ?_⟩
  rw [hTi]
  simp -implicitDefEqProofs only [rX,↓rY,F.rows_len,F.rows_get,F.encN_0]
  have hto : ((netOf ps rs)[(ws[i])[vU 0]'h0w]'hw0).to = (F.gA (netOf ps rs) ((ws[i]).getD 0 0)).to := by
   have e1 : (ws[i]).getD 0 0 = (ws[i])[0] := by rw [yA, yF h0w, yE]
   rw [e1, F.getD_nil (a := ⟨0, 0, 0, 0⟩) hw0]
   rfl
  have hdw : ws.drop i = ws[i] :: ws.drop (i + 1) := yU hi2
  have hdn : ns.drop i = ns[i] :: ns.drop (i + 1) := yU hin
  rw [hdw, hdn, findW] at hf
  refine ⟨⟨by omega, by omega⟩, h0w, ⟨by omega, by have : (ws[i])[vU 0]'h0w = (ws[i])[0] := rfl; omega⟩, hw0, ⟨by simp only [lo]; omega, by simp only [Fx.hi]; omega⟩, ⟨by simp only [lo]; omega, by simp only [Fx.hi]; omega⟩, fun htg => ?_, fun htg => ?_⟩
  ·rw [hto] at htg
   have htg : ¬ (F.gA (netOf ps rs) ((ws[i]).getD 0 0)).to = 2 + 2 * place := bne_iff_ne.1 htg
   rw [if_neg htg] at hf
   refine ⟨by simp only [lo, Fx.hi]; omega, (i + 1, m, T), ⟨⟨by show i + 1 ≤ _; omega, ⟨hm0, hmn, hf⟩, hT.next⟩, by show ws.length - (i + 1) < _; omega⟩, by show (i : Int) + 1 = ((i + 1 : Nat) : Int); omega, ⟨rfl, .inl trivial, hT.le0⟩, wcsB_wf hT, F.arr_wf hT.arr⟩
  ·rw [hto] at htg
   have htg : (F.gA (netOf ps rs) ((ws[i]).getD 0 0)).to = 2 + 2 * place := bne_eq_false_iff_eq.1 htg
   rw [if_pos htg] at hf
   refine ⟨⟨by omega, by omega⟩, hin, ?_⟩
   have hwn : (ws[i]).length ≤ 4096 := by
    have := F.nodup_le (l := (ws[i]).map vH) (netOf ps rs).length (by
     rw [vV, List.pairwise_map]
     exact List.Pairwise.imp (fun h e => h (Int.ofNat.inj e)) (vV.1 (F.nodup_of_map hw.nod))) (by
     intro v hv
     rw [uT] at hv
     obtain ⟨j, hj, rfl⟩ := hv
     have := hw.lt j hj
     simp only [xF]; omega)
    rw [yG] at this
    omega
   refine call_isM (fun z : List Nat => True) [5, i + 18] [] [] [.sl 1 0 (ws[i]).length, .clo 77 [.ptr 0 0 0]] (fun _ => .sl 1 0 (keptW ps (ws[i])).length) [plB ps rs, .arr 1 ((ws[i]).map nE)] (fun z => [plB ps rs, .arr 1 ((keptW ps (ws[i]) ++ z).map nE)]) (ok53w ps rs (ws[i]) hwn) ⟨by simp, ?_⟩ ⟨rfl, by simp⟩ ?_ ?_ fun z _ => ⟨?_, ?_⟩
   ·intro k hk
    rcases (by simpa using hk : k = 5 ∨ k = i + 18) with rfl | rfl
    ·exact ⟨by simp, by simp⟩
    ·exact ⟨by simp [hT.len]; omega, by simp⟩
   ·simp only [yM, yZ, blk, yA, get18, hTi]; rfl
   ·simp [lendsOk, lendOk, lends, lend, wkL, wk, pos]
   ·simp only [setAll, yM, yZ, uW, yV, keepP, liveP]
    simp [renB, rens, ren, killB, killE, set18]
   have hb1 : back [5, i + 18] (T.length + 18) 1 = some (i + 18) := rfl
   have hk0 : (wcsB 18 ws).map (kills []) = wcsB 18 ws := wcsB_kill (by simp)
   simp -implicitDefEqProofs only [rX,↓rY,↓reduceIte,Nat.reduceEqDiff,killE,killB,kill,kills,St.kill,setAll,renB,rens,ren,set18,killB_nil,hb1,hk0]
   have hT2 := hT.put ((keptW ps (ws[i]) ++ z).map nE)
   have hTi2 : (T.set i (.arr 1 ((keptW ps (ws[i]) ++ z).map nE)))[i]? = some (.arr 1 ((keptW ps (ws[i]) ++ z).map nE)) := List.getElem?_set_self (by rw [hT.len]; exact hi2)
   have hTl : T.length = (T.set i (.arr 1 ((keptW ps (ws[i]) ++ z).map nE))).length := by simp
   generalize T.set i (.arr 1 ((keptW ps (ws[i]) ++ z).map nE)) = T' at *
   rw [hTl]
   refine ⟨rfl, yR_go (T'.length + 18) (by simp) rfl rfl ?_⟩
   unfold c24a0 c24r0
   simp -implicitDefEqProofs only [rX,↓rY,ofConst,cells?,splice,↓reduceIte,Nat.reduceEqDiff,reduceCtorEq,leE,leH,leB,leV,leVs,keepP,liveP,wfE,wfB,wfV,wfL,isC,setPs,get18,set18,F.app_get0,F.app_set0]
   simp only [br, decide_eq_true_eq, decide_eq_false_iff_not]
   have hil : i < T'.length := by rw [hT2.len]; exact hi2
   refine ⟨fun hfd => ?_, fun hnf => ?_⟩
   ·rw [if_pos hfd] at hf
    have hrt : rt ps (netOf ps rs) ws ns place n = (keptW ps (ws[i]), 0) := by
     rw [rt, if_neg h0, if_neg h4, ← hf]
    have hTa : ∀ L : List Blk, (T' ++ L)[i]? = some (.arr 1 ((keptW ps (ws[i]) ++ z).map nE)) := fun L => by
     rw [xD hil]; exact hTi2
    refine ⟨⟨by rw [hTa]; trivial, wcsB_wfl hT2, arr_wfl (by simp [wfB]) hT2.arr⟩, ?_⟩
    simp -implicitDefEqProofs only [rX,↓rY,↓reduceIte,Nat.reduceEqDiff,resP,tupV,keepP,liveP,wfV,wfL,retP_eq]
    refine ⟨_, ⟨leH_rf _, by simp, ?_⟩, ?_⟩
    ·refine ⟨by rw [get18, hTa]; trivial, ?_⟩
     simp -implicitDefEqProofs only [rX,liveP,wfB,wfV,wfL,get18,hTa,eq_true (wcsB_wfl hT2),eq_true (arr_wfl (L := [.dead]) (by simp [wfB]) hT2.arr)]
    ·have hbk : ∀ a b c d e f g h i' j k l m n o p q r, blk (a :: b :: c :: d :: e :: f :: g :: h :: i' :: j :: k :: l :: m :: n :: o :: p :: q :: r :: (T' ++ [.dead])) (i + 18) = .arr 1 ((keptW ps (ws[i]) ++ z).map nE) := by
      intro a b c d e f g h i' j k l m n o p q r
      rw [blk, yA, get18, hTa]; rfl
     simp only [gvV, gvL, hbk, hrt]
     simp [wk, wkL, wkR, lnat]
     done
   ·rw [if_neg hnf] at hf
    refine ⟨by simp only [lo, Fx.hi]; omega, by simp only [lo, Fx.hi]; omega, (i + 1, m - ns[i], T'), ⟨⟨by show i + 1 ≤ _; omega, ⟨by show 0 ≤ m - ns[i]; omega, by show m - ns[i] ≤ n; omega, hf⟩, hT2⟩, by show ws.length - (i + 1) < _; omega⟩, by show (i : Int) + 1 = ((i + 1 : Nat) : Int); omega, ⟨rfl, .inl trivial, hT2.le⟩, wcsB_wf hT2, F.arr_wf hT2.arr⟩
 ·have hie : i = ws.length := by omega
  have hrt : rt ps (netOf ps rs) ws ns place n = ([], 1) := by
   rw [hie, uQ, findW] at hf
   ·rw [rt, if_neg h0, if_neg h4, ← hf]
   ·intro a b c d e
    cases e
  exact ⟨⟨wcsB_wf hT, F.arr_wf hT.arr⟩, early _ _ _ 1 hrt rfl rfl rfl rfl⟩
end
set_option maxRecDepth 20000
def sumAt (arcs : List Arc) (tgt : Int) : List (List Nat) → List Int → Int
 | w :: ws, m :: ms => (if (F.gA arcs (w.getD 0 0)).to = tgt then m else 0) + sumAt arcs tgt ws ms
 | _, _ => 0
theorem findW_none {arcs : List Arc} {tgt : Int} : ∀ {ws : List (List Nat)} {ns : List Int} {n : Int}, (∀ m ∈ ns, 0 < m) → sumAt arcs tgt ws ns ≤ n → findW arcs tgt ws ns n = none
 | [], _, _, _, _ => by simp [findW]
 | _ :: _, [], _, _, _ => by simp [findW]
 | w :: ws, m :: ms, n, h, hs => by
  have h1 := h m yN
  have h2 : ∀ x ∈ ms, 0 < x := fun x hx => h x (yP _ hx)
  have h3 : 0 ≤ sumAt arcs tgt ws ms := sumAt_nn h2
  simp only [sumAt] at hs
  simp only [findW]
  by_cases e : (F.gA arcs (w.getD 0 0)).to = tgt
  ·rw [if_pos e] at hs ⊢
   rw [if_neg (by omega)]
   exact findW_none h2 (by omega)
  ·rw [if_neg e] at hs ⊢
   exact findW_none h2 (by omega)
where
 sumAt_nn {arcs : List Arc} {tgt : Int} : ∀ {ws : List (List Nat)} {ns : List Int}, (∀ m ∈ ns, 0 < m) → 0 ≤ sumAt arcs tgt ws ns
 | [], _, _ => by simp [sumAt]
 | _ :: _, [], _ => by simp [sumAt]
 | w :: ws, m :: ms, h => by
  have h1 := h m yN
  have h2 := sumAt_nn (arcs := arcs) (tgt := tgt) (ws := ws) (ns := ms) fun x hx => h x (yP _ hx)
  simp only [sumAt]
  split <;> omega
theorem sumI_term {f : Nat → Int} {k : Nat} : ∀ {n : Nat}, k < n → (∀ i, i < n → 0 ≤ f i) → f k ≤ sumI f n
 | 0, h, _ => by omega
 | n + 1, h, h0 => by
  simp only [sumI]
  have h1 := sumI_nn (f := f) (n := n) fun i hi => h0 i (by omega)
  have h2 := h0 n (by omega)
  by_cases e : k = n
  ·subst e; omega
  ·have := sumI_term (f := f) (k := k) (n := n) (by omega) fun i hi => h0 i (by omega)
   omega
section
variable {ps : List Spot} {rs : List Road} {fr : Fr}
theorem src_arc (hv : RInv ps rs rs.length) {j : Nat} (hj : j < (netOf ps rs).length) (h0 : (F.gA (netOf ps rs) j).from_ = 0) :
  ∃ k, k < (ofN ps 1 ps.length).length ∧ j = ps.length + k ∧ (F.gA (netOf ps rs) j).to = 2 + 2 * ((ofN ps 1 ps.length).getD k 0 : Nat) := by
 have l3 : (nA3 ps (ofN ps 3 ps.length)).length = ps.length + (ofN ps 1 ps.length).length + (ofN ps 3 ps.length).length := by
  simp only [nA3, nA2, nA1, yH, yG, List.length_range]
 have l2 : (nA2 ps (ofN ps 1 ps.length)).length = ps.length + (ofN ps 1 ps.length).length := by
  simp only [nA2, nA1, yH, yG, List.length_range]
 have hl := netOf_len (ps := ps) (rs := rs)
 have hg : F.gA (netOf ps rs) j = (netOf ps rs).getD j a0 := rfl
 rw [hg] at h0 ⊢
 by_cases h1 : j < ps.length
 ·exfalso
  rw [netOf, nA4, getD_l (by omega), nA3, getD_l (by omega), nA2, getD_l (by rw [nA1_len]; omega), nA1, getD_map 0 (by simpa using h1)] at h0
  simp only [aP] at h0; omega
 by_cases h2 : j < ps.length + (ofN ps 1 ps.length).length
 ·refine ⟨j - ps.length, by omega, by omega, ?_⟩
  rw [netOf, nA4, getD_l (by omega), nA3, getD_l (by omega), nA2, show j = ps.length + (j - ps.length) by omega, getD_r nA1_len, getD_map 0 (by omega)]
  simp only [aS, show ps.length + (j - ps.length) - ps.length = j - ps.length by omega]
 by_cases h3 : j < ps.length + (ofN ps 1 ps.length).length + (ofN ps 3 ps.length).length
 ·exfalso
  rw [netOf, nA4, getD_l (by omega), nA3, show j = ps.length + (ofN ps 1 ps.length).length + (j - (ps.length + (ofN ps 1 ps.length).length)) by omega, getD_r l2, getD_map 0 (by omega)] at h0
  simp only [aO] at h0; omega
 ·exfalso
  rw [netOf, nA4, show j = ps.length + (ofN ps 1 ps.length).length + (ofN ps 3 ps.length).length + (j - (ps.length + (ofN ps 1 ps.length).length + (ofN ps 3 ps.length).length)) by omega, getD_r l3, getD_map default (by omega)] at h0
  obtain ⟨q1, q2, _⟩ := hv.h (j - (ps.length + (ofN ps 1 ps.length).length + (ofN ps 3 ps.length).length)) (by omega) (by omega)
  rw [yA, yF (by omega), yE] at h0
  simp only [aR] at h0; omega
theorem sumAt_le (hv : RInv ps rs rs.length) (p : Nat) : ∀ {ws : List (List Nat)} {ns : List Int}, (∀ w ∈ ws, F.Way (netOf ps rs) 0 1 w) → (∀ m ∈ ns, 0 < m) →
  sumAt (netOf ps rs) (2 + 2 * (p : Int)) ws ns ≤ sumI (fun k => if (ofN ps 1 ps.length).getD k 0 = p then F.useN ws ns (ps.length + k) else 0) (ofN ps 1 ps.length).length
 | [], ns, _, _ => by
  simp only [sumAt]
  refine sumI_nn fun i _ => ?_
  split <;> simp [F.useN]
 | w :: ws, [], _, _ => by
  simp only [sumAt]
  refine sumI_nn fun i _ => ?_
  split <;> simp [F.useN]
 | w :: ws, m :: ms, hw, hn => by
  have ih := sumAt_le hv p (ws := ws) (ns := ms) (fun x hx => hw x (yP _ hx)) fun x hx => hn x (yP _ hx)
  have hm := hn m yN
  have hW := hw w yN
  have e : sumI (fun k => if (ofN ps 1 ps.length).getD k 0 = p then F.useN (w :: ws) (m :: ms) (ps.length + k) else 0) (ofN ps 1 ps.length).length =
    sumI (fun k => if (ofN ps 1 ps.length).getD k 0 = p then (if ps.length + k ∈ w then m else 0) else 0) (ofN ps 1 ps.length).length + sumI (fun k => if (ofN ps 1 ps.length).getD k 0 = p then F.useN ws ms (ps.length + k) else 0) (ofN ps 1 ps.length).length := by
   rw [← sumI_plus]
   refine sumI_congr fun i _ => ?_
   simp only [F.useN]
   split <;> simp
  rw [e]
  simp only [sumAt]
  by_cases ht : (F.gA (netOf ps rs) (w.getD 0 0)).to = 2 + 2 * (p : Int)
  ·rw [if_pos ht]
   cases w with
   | nil => exact absurd rfl hW.ne
   | cons j w =>
    have h0 : (F.gA (netOf ps rs) j).from_ = 0 := hW.walk.1
    obtain ⟨k, hk, hj, hto⟩ := src_arc hv (hW.lt j yN) h0
    have ht : (F.gA (netOf ps rs) j).to = 2 + 2 * (p : Int) := ht
    have hkp : (ofN ps 1 ps.length).getD k 0 = p := by omega
    have := sumI_term (f := fun k => if (ofN ps 1 ps.length).getD k 0 = p then (if ps.length + k ∈ j :: w then m else 0) else 0) hk (fun i _ => by split <;> (try split) <;> omega)
    simp only [hkp, if_true] at this
    rw [if_pos (by rw [hj]; exact yN)] at this
    omega
  ·rw [if_neg ht]
   have := sumI_nn (f := fun k => if (ofN ps 1 ps.length).getD k 0 = p then (if ps.length + k ∈ w then m else 0) else 0) (n := (ofN ps 1 ps.length).length) (fun i _ => by split <;> (try split) <;> omega)
   omega
theorem IsPlan.at_le (h : IsPlan ps rs fr) {p : Nat} (hp : p < ps.length) (hk : isK ps 1 p = true) {ws : List (List Nat)} {ns : List Int} (hG : F.Good (netOf ps rs) 0 1 fr.flow ws ns) : sumAt (netOf ps rs) (2 + 2 * (p : Int)) ws ns ≤ fr.fl p := by
 have h1 := sumAt_le (chk_caps h.chk).2.2 p hG.way (fun m hm => (hG.num m hm).1)
 have h2 := h.e_in hp
 rw [h.in_0 hk] at h2
 refine Int.le_trans h1 ?_
 rw [h2, Int.add_zero, sS]
 refine sumI_le fun k _ => ?_
 split
 ·exact hG.use _
 ·exact vQ _
end
set_option maxRecDepth 20000
theorem keptW_s {ps : List Spot} {w : List Nat} {k : Nat} (hk : k < w.length) : keptW ps (w.take (k + 1)) = keptW ps (w.take k) ++ (if w[k] < ps.length then [w[k]] else []) := by
 simp only [keptW, yT hk, vO]
 congr 1
 by_cases h : w[k] < ps.length
 ·have : ¬ ps.length ≤ w[k] := by omega
  simp [offB, h, this]
 ·have : ps.length ≤ w[k] := by omega
  simp [offB, h, this]
theorem keptW_len {ps : List Spot} {w : List Nat} : (keptW ps w).length ≤ w.length := xG _ _
theorem ok52 (ps : List Spot) (rs : List Road) (w : List Nat) (hl : w.length ≤ 4096) : Ok 52 [plant ps rs, .ro 1 (F.rows w)] (Is (lnat (keptW ps w))) := by
 refine okN_give (R := fun r hs => wk (lnat (keptW ps w)) (gvV (fun _ => true) hs r)) ?_ fun _ _ h => h
 refine ok_of lw52 (by simp) ?_
 unfold c52 plant sps rds
 simp -implicitDefEqProofs only [rX,↓rY,ofConst,cells?,↓reduceIte,freshP,cxN,args0]
 refine loopP_ghost (.virt 1 1 (by decide) (.nilE 5 1 rfl (.refl _))) (fun k : Nat => ⟨[(6, .i k), (5, .sl 1 0 (keptW ps (w.take k)).length), (2, .ptr 0 0 0), (1, .ro 1 (F.rows w))], [plB ps rs, .arr 1 ((keptW ps (w.take k)).map nE)], 0⟩) (fun k => k ≤ w.length) (fun k => w.length - k) 0 (by omega) ?_ ?_
 ·simp -implicitDefEqProofs only [rX,↓reduceIte,Nat.reduceEqDiff,reduceCtorEq,leE,leH,leB,leV,leVs,keepP,liveP,wfE,wfB,wfV,wfL,yD,keptW,List.filter_nil]
 rintro k hk
 unfold c52l0
 simp -implicitDefEqProofs only [rX,↓rY,ofConst,cells?,↓reduceIte,Nat.reduceEqDiff,Nat.reduceAdd,reduceCtorEq,freshP,litsP,leE,leH,leB,leV,leVs,keepP,liveP,wfE,wfB,wfV,wfL,killE,killB,kill,kills,St.kill,isD,Nat.reduceLT,F.rows_len,F.rows_get,F.encN_0]
 simp only [br, yB, decide_eq_true_eq, decide_eq_false_iff_not]
 have hkl := keptW_len (ps := ps) (w := w.take k)
 rw [vP] at hkl
 refine fun hm => ⟨fun h => ?_, fun h => ?_⟩
 ·have hk2 : k < w.length := by omega
  have hs := keptW_s (ps := ps) hk2
  refine ⟨⟨by omega, h⟩, hk2, fun hm2 => ⟨fun h3 => ⟨⟨by omega, h⟩, hk2, by omega, by simp only [lo, hi]; omega, k + 1, ⟨by omega, by omega⟩, ⟨by omega, ?_⟩, ?_⟩, fun h3 => ⟨by simp only [lo, hi]; omega, k + 1, ⟨by omega, by omega⟩, ⟨by omega, ?_⟩, ?_⟩⟩⟩
  ·rw [hs, if_pos (by omega)]; simp
  ·rw [hs, if_pos (by omega), yK (by simp)]; simp [nE]
  ·rw [hs, if_neg (by omega)]; simp
  ·rw [hs, if_neg (by omega)]; simp
 ·have hk2 : k = w.length := by omega
  subst hk2
  rw [uP]
  simp [qa, qb, qc, qd, qe, qf, qh, qi, qj, qk, ql, qm, qn, qo, qp, qq, qr, qs, qt, qu, qv, qw, qx, qy, qz, qA, qB, qC, qD, qE, qF, qG, qH, qI, qJ, qK, qL, qM, qN, rdK, qO, qP, qQ, qR, qS, qT, qU, qV, qW, qX, qY, qZ, za, zb, zc, zd, ze, zf, zg, zh, zi, zj, zk, zl, zm, zn, zo, zp, zq, zr, zt, zu, zv, zw, zx, zy, zz, zA, zB, zC, zD, zE, zF, zG, zH, zJ, zK, zL, zM, zN, zO, zP, zQ, zR, zS, zT, zU, zV, zW, zX, zY, zZ, ka, kc, ke, kf, kg, kh, ki, kj, kk, kn, ko, kp, kq, kr, kv, kw, kx, ky, kz, kA, kB, kC, kD, kF, kG, kH, kI, ofConst, cells?, yS, yJ, yV, splice, kJ, yA, vA, ↓reduceIte, Nat.reduceEqDiff, yE, kK, kL, arrSz, kM, yW, vB, ↓kN, ↓kO, kP, kQ, vW, vI, yQ, vC, Nat.reduceAdd, vJ, reduceCtorEq, freshP, vX, vY, slcOk, vZ, buildP, litsP, kR, resP, tupV, uA, uB, kS, leE, leH, leB, leV, leVs, keepP, liveP, wfE, wfB, wfV, wfL, killE, killB, kill, kills, St.kill, yM, yZ, uC, uD, uE, uF, uG, uH, isD, isC, uI, uJ, true_and, and_true, and_self, V.v.injEq, Value.int.injEq, Value.bool.injEq, yL, uK, or_false, false_or, yH, yG, uL, not_false_eq_true, yI, Nat.reduceLT, Nat.reduceLeDiff, yO, lg0, kT, kU, kV, kW, lg1, kX, kY, kZ, wa, lg2, wb, wc, wd, we, lg3, wg, wh, wi, wj, lg4, wl, wm, wn, wo, lg5, wq, wr, wt, wu, lg6, ww, wx, wy, wz, lg7, wB, wC, wD, wE, lg8, wF, wG, wH, wI, lg9, wJ, wK, wL, wM, wN, wO, wP, wQ, wR, wS, wU, wV, wW, wX, wY, wZ, ja, jb, jc, jd, je, jf, jg, jh, ji, jj, jk, jl, jm, jn, jo, jp, jq, jr, jt, ju, jv, jx, jy, jz, jA, jB, jC, jD, jE, jF, jG, jH, jI, jJ, jK, jL, jM, jN, jO, jP, jQ, jR, jS, jT, jU, jV, jW, jX, jY, jZ, qaa, ↓qab, ↓qac, ↓qad, ↓qae, ↓qaf, ↓qag, ↓qah, ↓qai, ↓qaj, ↓qak, ↓qal, ↓qam, ↓qan, ↓qao, ↓qap, ↓qaq, ↓qar, ↓qas, ↓qat, ↓qau, ↓qav, ↓qaw, ↓qax, ↓qay, ↓qaz, ↓qaA, ↓qaB, ↓qaC, ↓qaD, ↓qaE, ↓qaF, ↓qaG, ↓qaH, ↓qaI, ↓qaJ, ↓qaK, ↓qaL, ↓qaM, ↓qaN, ↓qaO, ↓qaP, ↓qaQ, ↓qaR, ↓qaS, ↓qaT, ↓qaU, ↓qaV, ↓qaW, ↓qaX, ↓qaY, ↓qaZ, ↓qba, ↓qbb, ↓qbc, ↓qbd, ↓qbe, ↓qbf, ↓qbg, ↓qbh, ↓qbi, ↓qbj, ↓qbk, ↓qbl, ↓qbm, ↓qbn, ↓qbo, ↓qbp, ↓qbq, ↓qbr, ↓qbs, ↓qbt, ↓qbu, ↓qbv, ↓qbw, ↓qbx, ↓qby, ↓qbz, ↓qbA, ↓qbB, ↓qbC, ↓qbD, ↓qbE, ↓qbF, ↓qbG, ↓qbH, ↓qbI, ↓qbJ, ↓qbK, ↓qbL, ↓qbM, ↓qbN, ↓qbO, ↓qbP, ↓qbQ, ↓qbR, ↓qbS, ↓qbT, ↓qbU, ↓qbV, ↓qbW, ↓qbX, ↓qbY, ↓qbZ, ↓qca, ↓qcb, ↓qcc, ↓qcd, ↓qce, ↓qcf, ↓qcg, ↓qch, ↓qci, ↓qcj, yG, uM, al_len, al_take, al_0, al_1, al_2, al_isC, al_isD, sp_len, sp_take, sp_0, sp_1, sp_2, sp_isC, sp_isD, rd_len, rd_take, rd_0, rd_1, rd_2, rd_3, rd_isC, rd_isD, enc_len, enc_take, enc_0, enc_1, enc_2, enc_3, enc_isC, enc_isD, encI_len, encI_0, encB_len, encB_0, yB, encI_drop, encB_drop, cxN, retP_eq]
  exact ⟨_, ⟨leH_rf _, by simp, by simp [wfB, wfL, wfV, liveP]⟩, by simp [gvV, gvL, wk, wkR, blk, lnat]; exact yK (by simp)⟩
theorem wrow_get {ws : List (List Nat)} {i : Nat} (h : i < (F.wrows ws).length) : (F.wrows ws)[i] = [.ro 1 (F.rows (ws[i]'(by simpa [F.wrows] using h)))] := by simp [F.wrows]
theorem ok25 (ps : List Spot) (rs : List Road) (fr : Fr) (h : IsPlan ps rs fr) (place n : Int) (hnb : n ≤ 9223372036854775807) (ws : List (List Nat)) (ns : List Int) (hR : F.PR (nN ps) (netOf ps rs) 0 1 fr.flow ws ns) :
  Ok 25 [plant ps rs, fr.enc, .i place, .i n] (Is (.agg [lnat (rt ps (netOf ps rs) ws ns place n).1, .i (rt ps (netOf ps rs) ws ns place n).2])) := by
 have hc := h.chk
 obtain ⟨⟨hl1, hl2⟩, hcap, hv⟩ := chk_caps hc
 have hV := net_val hc
 have hVF := FVal hV
 have hb : nN ps ≤ 64 ∧ (netOf ps rs).length ≤ 100 := by
  have := nA4_len (ps := ps) (l := rs)
  have := h.few
  simp only [nN, netOf]; omega
 have eN : ((nN ps : Nat) : Int) = 2 + 2 * ps.length := by simp [nN]
 have hE : ((0 : Int) ≤ 0 ∧ (0 : Int) < nN ps) ∧ ((0 : Int) ≤ 1 ∧ (1 : Int) < nN ps) ∧ (0 : Int) ≠ 1 := by omega
 have he : F.endsB (nN ps) 0 1 = true := by simpa [F.endsB] using hE
 have hck : F.checkI (nN ps) (netOf ps rs) 0 1 fr.flow = 0 := check_ok he h.acc.fl (by rw [h.acc.hv]; exact h.acc.hs.1)
 have hG := hR.good hVF hE.1 hE.2.2 (F.flow_Fv hVF hck)
 have hwl : ws.length ≤ (netOf ps rs).length := uV hG.cnt (F.cnt_all _ _)
 have hfl := h.len
 refine okN_give (R := fun r hs => wk (.agg [lnat (rt ps (netOf ps rs) ws ns place n).1, .i (rt ps (netOf ps rs) ws ns place n).2]) (gvV (fun _ => true) hs r)) ?_ fun _ _ h => h
 refine ok_of lw25 (by simp) ?_
 unfold c25 plant sps rds Fr.enc li
 simp -implicitDefEqProofs only [rX,↓rY,rZ,ofConst,cells?,splice,↓reduceIte,Nat.reduceEqDiff,Nat.reduceAdd,reduceCtorEq,freshP,buildP,isC,cxN,args0]
 simp only [br, decide_eq_true_eq, decide_eq_false_iff_not, beq_iff_eq, bne_iff_ne, bne_eq_false_iff_eq, yB]
 have fin : ∀ (h' : List Blk) (e' : Env) (b' : Nat) (l : List Nat) (q : Int) (x : V), rt ps (netOf ps rs) ws ns place n = (l, q) → (x = .nil ∧ l = []) ∨ x = lnat l → h'[2]? = some (.var [x, .i q]) → get e' 8 = .ptr 2 0 0 →
   retP [] 0 [LRes.cell 8 (some 2)] (fun r hs => wk (.agg [lnat (rt ps (netOf ps rs) ws ns place n).1, .i (rt ps (netOf ps rs) ws ns place n).2]) (gvV (fun _ => true) hs r)) ⟨e', h', b'⟩ := by
  intro h' e' b' l q x hq hx h2 g8
  rw [retP_eq]
  have b2 : blk h' 2 = .var [x, .i q] := by rw [blk, yA, h2]; rfl
  rcases hx with ⟨rfl, rfl⟩ | rfl
  ·simp only [resP, g8, qad, b2]
   simp -implicitDefEqProofs only [rX,↓rY,Nat.reduceAdd,tupV,keepP,wfV,wfL]
   refine ⟨[], ⟨by cases h' <;> simp [leH], by simp, trivial⟩, ?_⟩
   rw [hq]
   simp [gvV, gvL, wk, wkL, wkR, lnat]
  ·simp only [resP, g8, qad, b2, lnat]
   simp -implicitDefEqProofs only [rX,↓rY,Nat.reduceAdd,tupV,keepP,wfV,wfL]
   refine ⟨[], ⟨by cases h' <;> simp [leH], by simp, trivial⟩, ?_⟩
   rw [hq]
   simp [gvV, gvL, wk, wkL, wkR, lnat]
 have hk : ∀ i (hi : i < ps.length), isK ps 1 i = (ps[i].kind == 1) := fun i hi => isK_lt hi
 refine ⟨fun h1 => fin _ _ _ [] 5 .nil (by rw [rt, if_pos (.inl h1)]) (.inl ⟨rfl, rfl⟩) rfl rfl, fun h1 hm => ⟨fun h2 => fin _ _ _ [] 5 .nil (by rw [rt, if_pos (.inr (.inl h2))]) (.inl ⟨rfl, rfl⟩) rfl rfl, fun h2 => ⟨⟨by omega, by omega⟩, by omega, fun h3 => fin _ _ _ [] 5 .nil (by rw [rt, if_pos (.inr (.inr (by rw [hk _ (by omega)]; simpa using h3)))]) (.inl ⟨rfl, rfl⟩) rfl rfl, fun h3 => ?_⟩⟩⟩
 have hkp : isK ps 1 place.toNat = true := by rw [hk _ (by omega)]; simpa using h3
 have h0 : ¬ (place < 0 ∨ (ps.length : Int) ≤ place ∨ isK ps 1 place.toNat = false) := by
  rw [hkp]; simp; omega
 have hpe : ((place.toNat : Nat) : Int) = place := by omega
 have hfp : fr.fl place.toNat = fr.flow[place.toNat]'(by omega) := by rw [Fr.fl, yA, yF (by omega), yE]
 refine ⟨fun h4 => fin _ _ _ [] 1 .nil (by rw [rt, if_neg h0, if_pos h4]) (.inl ⟨rfl, rfl⟩) rfl rfl, fun h4 => ⟨⟨by omega, by omega⟩, by omega, fun h5 => fin _ _ _ [] 1 .nil ?_ (.inl ⟨rfl, rfl⟩) rfl rfl, fun h5 => ?_⟩⟩
 ·have := h.at_le (p := place.toNat) (by omega) hkp hG
  rw [hfp, hpe] at this
  rw [rt, if_neg h0, if_neg h4, findW_none (fun m hm => (hG.num m hm).1) (by omega)]
 refine call_is (ok16 ps rs hl1 hl2 hv) (by simp [plant, sps, rds, net, lendsOk, lendOk, lends, lend, wkL, wk, wkR]) rfl trivial ?_
 simp -implicitDefEqProofs only [rX,↓rY,ofConst,cells?,splice,↓reduceIte,Nat.reduceEqDiff,Nat.reduceAdd,freshP,isC,net]
 rw [nN_eq]
 refine call_is (F.ok51 (nN ps) (netOf ps rs) 0 1 fr.flow ws ns hVF hck hR) (by simp [li, lendsOk, lendOk, lends, lend, wkL, wk, wkR]) rfl trivial ?_
 simp -implicitDefEqProofs only [rX,↓rY,ofConst,cells?,splice,↓reduceIte,Nat.reduceEqDiff,Nat.reduceAdd,freshP,isC,F.pathsG]
 refine loopP_intro (fun g : Nat × Int => ⟨[(11, .i g.1), (10, .ptr 4 0 0), (9, .ptr 3 0 0), (8, .ptr 2 0 0), (4, .ptr 0 0 0), (2, .i place), (3, .i g.2)], [plB ps rs, .dead, .var [.nil, .i 0], .var [.i (nN ps), .ro 4 ((netOf ps rs).map Arc.enc)], .var [.ro 1 (F.wrows ws), .ro 1 (ns.map encI), .i 0]], 0⟩) (fun g => g.1 ≤ ws.length ∧ (0 ≤ g.2 ∧ g.2 ≤ n ∧ findW (netOf ps rs) (2 + 2 * place) (ws.drop g.1) (ns.drop g.1) g.2 = findW (netOf ps rs) (2 + 2 * place) ws ns n)) (fun g => ws.length - g.1) (0, n) ⟨uS _, by show 0 ≤ n; omega, vQ _, rfl⟩ ?_ ?_
 ·simp -implicitDefEqProofs only [rX,↓reduceIte,Nat.reduceEqDiff,reduceCtorEq,leE,leH,leB,leV,leVs,keepP,liveP,wfE,wfB,wfV,wfL,yD]
 rintro ⟨i, m⟩ ⟨hi, hm0, hmn, hf⟩
 simp only at hi hm0 hmn hf
 unfold c25l0
 simp -implicitDefEqProofs only [rX,↓rY,rZ,ofConst,cells?,splice,↓reduceIte,Nat.reduceEqDiff,Nat.reduceAdd,buildP,leE,leH,leB,leV,leVs,keepP,liveP,wfE,wfB,wfV,wfL,isC,F.rows_len,F.rows_get,F.encN_0,F.wrows_len,wrow_get]
 simp only [br, decide_eq_true_eq, decide_eq_false_iff_not, bne_iff_ne, bne_eq_false_iff_eq]
 refine fun hm2 => ⟨fun hlt => ?_, fun hge => ?_⟩
 ·have hi2 : i < ws.length := by omega
  have hw := hG.way _ (yC hi2)
  have h0w : 0 < (ws[i]).length := xE.2 hw.ne
  have hw0 := hw.lt _ (yC h0w)
  have hin : i < ns.length := by rw [hG.len]; exact hi2
  have hnr := hG.num _ (yC hin)
  have hto : ((netOf ps rs)[(ws[i])[vU 0]'h0w]'hw0).to = (F.gA (netOf ps rs) ((ws[i]).getD 0 0)).to := by
   have e1 : (ws[i]).getD 0 0 = (ws[i])[0] := by rw [yA, yF h0w, yE]
   rw [e1, F.getD_nil (a := ⟨0, 0, 0, 0⟩) hw0]
   rfl
  have hdw : ws.drop i = ws[i] :: ws.drop (i + 1) := yU hi2
  have hdn : ns.drop i = ns[i] :: ns.drop (i + 1) := yU hin
  rw [hdw, hdn, findW] at hf
  have hwn : (ws[i]).length ≤ 4096 := by
   have := F.nodup_le (l := (ws[i]).map vH) (netOf ps rs).length (by
    rw [vV, List.pairwise_map]
    exact List.Pairwise.imp (fun h e => h (Int.ofNat.inj e)) (vV.1 (F.nodup_of_map hw.nod))) (by
    intro v hv
    rw [uT] at hv
    obtain ⟨j, hj, rfl⟩ := hv
    have := hw.lt j hj
    simp only [xF]; omega)
   rw [yG] at this
   omega
  refine ⟨⟨by omega, hlt⟩, hi2, ⟨by omega, by omega⟩, h0w, ⟨by omega, by have : (ws[i])[vU 0]'h0w = (ws[i])[0] := rfl; omega⟩, hw0, ⟨by simp only [lo]; omega, by simp only [Fx.hi]; omega⟩, ⟨by simp only [lo]; omega, by simp only [Fx.hi]; omega⟩, fun htg => ?_, fun htg => ?_⟩
  ·rw [hto] at htg
   rw [if_neg htg] at hf
   exact ⟨by simp only [lo, Fx.hi]; omega, (i + 1, m), ⟨⟨by show i + 1 ≤ _; omega, hm0, hmn, hf⟩, by show ws.length - (i + 1) < _; omega⟩, by show (i : Int) + 1 = ((i + 1 : Nat) : Int); omega, rfl⟩
  ·rw [hto] at htg
   rw [if_pos htg] at hf
   refine ⟨⟨by omega, by omega⟩, hin, fun hfd => ⟨⟨by omega, hlt⟩, hi2, ?_⟩, fun hnf => ?_⟩
   ·rw [if_pos hfd] at hf
    have hrt : rt ps (netOf ps rs) ws ns place n = (keptW ps (ws[i]), 0) := by
     rw [rt, if_neg h0, if_neg h4, ← hf]
    refine call_is (ok52 ps rs (ws[i]) hwn) (by simp [plant, sps, rds, lendsOk, lendOk, lends, lend, wkL, wk, wkR]) rfl trivial ?_
    simp -implicitDefEqProofs only [rX,↓rY,cells?,splice,↓reduceIte,Nat.reduceEqDiff,Nat.reduceAdd,buildP,isC,Nat.reduceLeDiff,lnat]
    exact fin _ _ _ _ 0 _ hrt (.inr rfl) rfl rfl
   ·rw [if_neg hnf] at hf
    exact ⟨⟨by omega, by omega⟩, hin, by simp only [lo, Fx.hi]; omega, by simp only [lo, Fx.hi]; omega, (i + 1, m - ns[i]), ⟨⟨by show i + 1 ≤ _; omega, by show 0 ≤ m - ns[i]; omega, by show m - ns[i] ≤ n; omega, hf⟩, by show ws.length - (i + 1) < _; omega⟩, by show (i : Int) + 1 = ((i + 1 : Nat) : Int); omega, rfl⟩
 ·have hie : i = ws.length := by omega
  have hrt : rt ps (netOf ps rs) ws ns place n = ([], 1) := by
   rw [hie, uQ, findW] at hf
   ·rw [rt, if_neg h0, if_neg h4, ← hf]
   ·intro a b c d e
    cases e
  exact fin _ _ _ [] 1 .nil hrt (.inl ⟨rfl, rfl⟩) rfl rfl
set_option maxRecDepth 20000
def addA : List Allot → Int → Int → Int → List Allot
 | [], g, o, n => [⟨g, o, n⟩]
 | x :: L, g, o, n => if x.gate = g ∧ x.origin = o then ⟨g, o, x.n + n⟩ :: L else x :: addA L g o n
def sameG (g o : Int) (x : Allot) : Bool := x.gate == g && x.origin == o
theorem addA_new {g o n : Int} : ∀ {L : List Allot}, L.any (sameG g o) = false → addA L g o n = L ++ [⟨g, o, n⟩]
 | [], _ => rfl
 | x :: L, h => by
  simp only [vD, xH, sameG, xI, beq_eq_false_iff_ne] at h
  rw [addA, if_neg (by omega), addA_new (by simpa [sameG] using h.2)]
  rfl
theorem addA_old {g o n : Int} : ∀ {L : List Allot}, L.any (sameG g o) = true → ∃ h : L.findIdx (sameG g o) < L.length, addA L g o n = L.set (L.findIdx (sameG g o)) ⟨L[L.findIdx (sameG g o)].gate, L[L.findIdx (sameG g o)].origin, L[L.findIdx (sameG g o)].n + n⟩
 | [], h => by cases h
 | x :: L, h => by
  cases hx : sameG g o x with
  | true =>
   have h2 := hx
   simp only [sameG, uX, beq_iff_eq] at h2
   have e : (x :: L).findIdx (sameG g o) = 0 := by simp [uN, hx]
   refine ⟨by rw [e]; simp, ?_⟩
   simp only [e, yV, List.getElem_cons_zero]
   rw [addA, if_pos h2, h2.1, h2.2]
  | false =>
   have h2 := hx
   simp only [sameG, xI, beq_eq_false_iff_ne] at h2
   simp only [vD, hx, uY] at h
   obtain ⟨h3, h4⟩ := addA_old (n := n) h
   have e : (x :: L).findIdx (sameG g o) = L.findIdx (sameG g o) + 1 := by simp [uN, hx]
   refine ⟨by rw [e]; simpa using h3, ?_⟩
   simp only [e, uW, List.getElem_cons_succ]
   rw [addA, if_neg (by omega), h4]
theorem addA_len {g o n : Int} : ∀ {L : List Allot}, (addA L g o n).length ≤ L.length + 1
 | [] => by simp [addA]
 | x :: L => by
  rw [addA]
  by_cases h : x.gate = g ∧ x.origin = o
  ·rw [if_pos h]; simp
  ·rw [if_neg h]; simp only [yJ]; have := addA_len (g := g) (o := o) (n := n) (L := L); omega
def inB (L : List Allot) (B : Int) : Prop := ∀ a ∈ L, 0 ≤ a.n ∧ a.n ≤ B
theorem addA_in {g o n B : Int} (hn : 0 ≤ n ∧ n ≤ 1073741824) : ∀ {L : List Allot}, inB L B → 0 ≤ B → inB (addA L g o n) (B + 1073741824)
 | [], _, _ => fun a ha => by
  rw [addA] at ha
  obtain rfl := vT.1 ha
  simp only; omega
 | x :: L, h, hB => fun a ha => by
  have hx := h x yN
  have hr := fun b hb => h b (yP _ hb)
  rw [addA] at ha
  by_cases h2 : x.gate = g ∧ x.origin = o
  ·rw [if_pos h2] at ha
   rcases yL.1 ha with rfl | ha
   ·simp only; omega
   ·have := hr a ha; omega
  ·rw [if_neg h2] at ha
   rcases yL.1 ha with rfl | ha
   ·omega
   ·exact addA_in hn hr hB a ha
abbrev rdF (ps : List Spot) (rs : List Road) (k : Nat) : Spot := ps.getD (rs.getD k default).from_.toNat default
abbrev rdT (ps : List Spot) (rs : List Road) (k : Nat) : Spot := ps.getD (rs.getD k default).to.toNat default
def alN (ps : List Spot) (rs : List Road) (fr : Fr) : Nat → List Allot
 | 0 => []
 | k + 1 => if (rdF ps rs k).kind = 2 ∧ (rdT ps rs k).kind = 3 then addA (alN ps rs fr k) (rdF ps rs k).num (rdT ps rs k).num (fr.rd ps k) else alN ps rs fr k
variable {ps : List Spot} {rs : List Road} {fr : Fr}
theorem alN_len : ∀ {k : Nat}, (alN ps rs fr k).length ≤ k
 | 0 => yO _
 | k + 1 => by
  have := alN_len (k := k)
  rw [alN]
  split
  ·have := addA_len (g := (rdF ps rs k).num) (o := (rdT ps rs k).num) (n := fr.rd ps k) (L := alN ps rs fr k); omega
  ·omega
theorem alN_in (hf : ∀ k, 0 ≤ fr.fl k ∧ fr.fl k ≤ 1073741824) : ∀ {k : Nat}, inB (alN ps rs fr k) (k * 1073741824)
 | 0 => fun a ha => by cases ha
 | k + 1 => by
  have := alN_in hf (k := k)
  rw [alN]
  split
  ·have h2 := addA_in (g := (rdF ps rs k).num) (o := (rdT ps rs k).num) (n := fr.rd ps k) (hf _) this (by omega)
   intro a ha
   have := h2 a ha
   omega
  ·intro a ha
   have := this a ha
   omega
set_option maxRecDepth 20000
set_option maxHeartbeats 1000000
abbrev keyG (x : Allot) : Value := .agg #[.int .i64 x.gate, .int .i64 x.origin]
def entsG : List Allot → Nat → List (Value × V × Nat)
 | [], _ => []
 | x :: l, i => (keyG x, .i i, i) :: entsG l (i + 1)
theorem entsG_app : ∀ {l : List Allot} {i : Nat} {x : Allot}, entsG (l ++ [x]) i = entsG l i ++ [(keyG x, .i ((i + l.length : Nat) : Int), i + l.length)]
 | [], i, x => rfl
 | y :: l, i, x => by
  simp only [vI, entsG, entsG_app, yJ]
  rw [show i + 1 + l.length = i + (l.length + 1) by omega]
theorem entsG_set {g o : Int} : ∀ {l : List Allot} {i j : Nat} {n : Int}, entsG (l.set j ⟨(l.getD j default).gate, (l.getD j default).origin, n⟩) i = entsG l i
 | [], _, _, _ => rfl
 | x :: l, i, 0, n => rfl
 | x :: l, i, j + 1, n => by
  simp only [uW, entsG]
  have := entsG_set (g := g) (o := o) (l := l) (i := i + 1) (j := j) (n := n)
  rw [show (x :: l).getD (j + 1) default = l.getD j default from rfl, this]
theorem entsG_set' {l : List Allot} {i j : Nat} {n : Int} (h : j < l.length) : entsG (l.set j ⟨l[j].gate, l[j].origin, n⟩) i = entsG l i := by
 have := entsG_set (g := 0) (o := 0) (l := l) (i := i) (j := j) (n := n)
 rwa [yA, yF h, yE] at this
theorem entsG_kill {K : List Nat} : ∀ {l : List Allot} {i : Nat}, (entsG l i).map (fun e => (e.1, kill K e.2.1, e.2.2)) = entsG l i
 | [], _ => rfl
 | x :: l, i => by
  simp only [entsG, yM, entsG_kill]
  rfl
abbrev alK : List (Nat × TypeDesc) := [(0, .int .i64), (1, .int .i64)]
theorem entsG_keys : ∀ {l : List Allot} {i : Nat}, keysA alK (entsG l i)
 | [], _ => fun e he => by cases he
 | x :: l, i => fun e he => by
  rcases yL.1 he with rfl | he
  ·exact ⟨_, rfl, rfl, rfl⟩
  ·exact entsG_keys e he
theorem entsG_wf {h : List Blk} : ∀ {l : List Allot} {i : Nat}, wfL h ((entsG l i).map fun x => x.2.1)
 | [], _ => by simp [entsG, wfL]
 | x :: l, i => by
  simp only [entsG, yM, wfL]
  exact ⟨by simp [wfV], entsG_wf⟩
theorem mfG {g o : Int} : ∀ {l : List Allot} {i j : Nat}, mfindA [.int .i64 g, .int .i64 o] (entsG l i) j = if l.any (sameG g o) then some (j + l.findIdx (sameG g o), .i ((i + l.findIdx (sameG g o) : Nat) : Int)) else none
 | [], i, j => rfl
 | y :: l, i, j => by
  simp only [entsG, mfindA, mfG]
  have key : (List.zip [Value.int .i64 g, .int .i64 o] (#[Value.int .i64 y.gate, .int .i64 y.origin] : Array Value).toList).all (fun p => eqK p.1 p.2) = sameG g o y := by
   simp [eqK, sameG, eq_comm, Bool.beq_comm]
  rw [key]
  cases h : sameG g o y with
  | true => simp [h, uN]
  | false =>
   simp only [vD, h, uY, uN, yI, if_false, cond_false]
   by_cases h2 : l.any (sameG g o) = true
   ·simp only [h2, if_true]
    rw [show j + 1 + l.findIdx (sameG g o) = j + (l.findIdx (sameG g o) + 1) by omega, show i + 1 + l.findIdx (sameG g o) = i + (l.findIdx (sameG g o) + 1) by omega]
   ·simp only [h2, yI, if_false]
variable {ps : List Spot} {rs : List Road} {fr : Fr}
theorem getD_ps {i : Nat} (h : i < ps.length) : ps.getD i default = ps[i] := by rw [yA, yF h, yE]
def hA (ps : List Spot) (rs : List Road) (fr : Fr) (L : List Allot) : List Blk :=
 [.var [.ro 3 (ps.map Spot.enc), .ro 4 (rs.map Road.enc)], .var [.i fr.sent, .i fr.cost, .ro 1 (fr.flow.map encI), .ro 1 (fr.price.map encI), .ro 1 (fr.cut.map encI)], .map (entsG L 0) L.length, .arr 3 (L.map Allot.enc)]
theorem ok30 (ps : List Spot) (rs : List Road) (fr : Fr) (h : IsPlan ps rs fr) : Ok 30 [plant ps rs, fr.enc] (Is (als (alN ps rs fr rs.length))) := by
 refine okN_give (R := fun r hs => wk (als (alN ps rs fr rs.length)) (gvV (fun _ => true) hs r)) ?_ fun _ _ h => h
 refine ok_of lw30 (by simp) ?_
 unfold c30 plant sps rds Fr.enc li
 have hlen := h.len
 have hb := h.fl_b
 simp -implicitDefEqProofs only [rX,↓rY,ofConst,cells?,↓reduceIte,Nat.reduceEqDiff,Nat.reduceAdd,reduceCtorEq,freshP,slcOk,cxN,args0]
 intro hm1 hm2
 have hq : ((fr.flow.length : Int) - (rs.length : Int)).toNat = ps.length + (ofN ps 1 ps.length).length + (ofN ps 3 ps.length).length := by omega
 have hs : vN (fr.flow.length - ((fr.flow.length : Int) - (rs.length : Int)).toNat) (List.drop ((fr.flow.length : Int) - (rs.length : Int)).toNat (List.map encI fr.flow)) = (fr.flow.drop (ps.length + (ofN ps 1 ps.length).length + (ofN ps 3 ps.length).length)).map encI := by
  rw [hq, List.map_drop, yK (by simp)]
 rw [hs]
 have hFl : (fr.flow.drop (ps.length + (ofN ps 1 ps.length).length + (ofN ps 3 ps.length).length)).length = rs.length := by rw [vF]; omega
 have hFk : ∀ k (hk : k < (fr.flow.drop (ps.length + (ofN ps 1 ps.length).length + (ofN ps 3 ps.length).length)).length), (fr.flow.drop (ps.length + (ofN ps 1 ps.length).length + (ofN ps 3 ps.length).length))[k] = fr.rd ps k := by
  intro k hk
  rw [Fr.rd, Fr.fl, List.getElem_drop, yA, yF (by omega), yE]
 generalize fr.flow.drop (ps.length + (ofN ps 1 ps.length).length + (ofN ps 3 ps.length).length) = FL at *
 refine ⟨by simp only [lo, hi, maxLen] at *; omega, ⟨by omega, by omega⟩, fun _ => ?_⟩
 refine loopP_ghost (.virt 1 3 (by decide) (.nilE 5 3 rfl (.refl _))) (fun k : Nat => ⟨[(28, .i k), (27, .i rs.length), (26, .ro 4 (rs.map Road.enc)), (7, .ro 1 (FL.map encI)), (6, .mp 2), (5, .sl 3 0 (alN ps rs fr k).length), (3, .ptr 1 0 0), (2, .ptr 0 0 0)], hA ps rs fr (alN ps rs fr k), 0⟩) (fun k => k ≤ rs.length) (fun k => rs.length - k) 0 (by omega) ?_ ?_
 ·simp -implicitDefEqProofs only [rX,↓reduceIte,Nat.reduceEqDiff,leE,leH,leB,leV,leVs,keepP,liveP,wfE,wfB,wfV,wfL,yD,alN,hA,entsG]
 rintro k hk
 unfold c30l0 hA
 simp -implicitDefEqProofs only [rX,↓rY,rZ,rdK,ofConst,cells?,splice,↓reduceIte,Nat.reduceEqDiff,arrSz,Nat.reduceAdd,reduceCtorEq,freshP,buildP,litsP,leE,leH,leB,leV,leVs,keepP,liveP,wfE,wfB,wfV,wfL,killE,killB,kill,kills,St.kill,isD,isC,Nat.reduceLT,Nat.reduceLeDiff]
 simp only [br, yB, decide_eq_true_eq, decide_eq_false_iff_not]
 refine ⟨fun h1 => ?_, fun h1 => ?_⟩
 ·have hkl : k < rs.length := by omega
  obtain ⟨s1, s2, _⟩ := h.snd hkl
  refine ⟨⟨by omega, h1⟩, hkl, ?_⟩
  have eF : rdF ps rs k = ps[rs[k].from_.toNat]'(by omega) := by rw [rdF, getD_rs hkl, getD_ps]
  have eT : rdT ps rs k = ps[rs[k].to.toNat]'(by omega) := by rw [rdT, getD_rs hkl, getD_ps]
  have hst := alN.eq_2 ps rs fr k
  rw [eF, eT] at hst
  have hFk := hFk k (by omega)
  have hlk := alN_len (ps := ps) (rs := rs) (fr := fr) (k := k)
  have hin := alN_in (ps := ps) (rs := rs) hb (k := k)
  have hfr := hb (ps.length + (ofN ps 1 ps.length).length + (ofN ps 3 ps.length).length + k)
  rw [show fr.fl (ps.length + (ofN ps 1 ps.length).length + (ofN ps 3 ps.length).length + k) = fr.rd ps k from rfl] at hfr
  simp only [hFk]
  have h25 := h.few.2
  generalize hL : alN ps rs fr k = L at *
  generalize fr.rd ps k = n at *
  simp only [lo, hi, maxLen] at *
  refine ⟨⟨by omega, by omega⟩, by omega, ⟨by omega, by omega⟩, by omega, fun h3 => ?_, fun h3 => ⟨fun h4 => ?_, fun h4 => ?_⟩⟩
  ·rw [if_neg (by simp only [bne_iff_ne] at h3; omega)] at hst
   refine ⟨by omega, k + 1, ⟨by omega, by omega⟩, ⟨by omega, by rw [hst]⟩, ⟨by rw [hst], by rw [hst]⟩, entsG_wf⟩
  ·rw [if_neg (by simp only [bne_iff_ne] at h4; omega)] at hst
   refine ⟨by omega, k + 1, ⟨by omega, by omega⟩, ⟨by omega, by rw [hst]⟩, ⟨by rw [hst], by rw [hst]⟩, entsG_wf⟩
  rw [if_pos ⟨by simpa using h3, by simpa using h4⟩] at hst
  generalize ps[rs[k].from_.toNat].num = g at *
  generalize ps[rs[k].to.toNat].num = o at *
  simp only [mfG]
  refine ⟨rfl, entsG_keys, ?_⟩
  cases hany : L.any (sameG g o) with
  | true =>
   obtain ⟨h5, h6⟩ := addA_old (n := n) hany
   generalize L.findIdx (sameG g o) = j at *
   simp only [if_true, lookK, tupK, optK, vA, xJ, boolK, intK, yW, yI, false_implies, true_implies, true_and]
   simp only [vC, yB]
   have hj := hin _ (yC h5)
   have hst : alN ps rs fr (k + 1) = _ := hst
   rw [h6] at hst
   refine ⟨⟨by omega, by omega⟩, h5, ⟨by omega, by omega⟩, by omega, ⟨by omega, by omega⟩, ⟨by omega, by omega⟩, h5, by omega, k + 1, ⟨by omega, by omega⟩, ⟨by omega, by rw [hst, List.length_set]⟩, ⟨by rw [hst, List.length_set, entsG_set' h5], ?_⟩, entsG_wf⟩
   rw [hst, uO]
   rfl
  | false =>
   have h6 := addA_new (n := n) hany
   have hst : alN ps rs fr (k + 1) = _ := hst
   rw [h6] at hst
   have hR : vN L.length (L.map Allot.enc) = L.map Allot.enc := yK (by simp)
   have hg : ∀ (r : List V) (h : L.length < (L.map Allot.enc ++ [r]).length), (L.map Allot.enc ++ [r])[L.length] = r := by
    intro r h
    rw [xB (by simp)]; simp
   have hs : ∀ (r t : List V), (L.map Allot.enc ++ [r]).set L.length t = L.map Allot.enc ++ [t] := by
    intro r t
    rw [xK _ _ (by simp)]; simp
   simp only [yI, if_false, if_true, lookK, ofConst, tupK, optK, vA, xJ, boolK, intK, vB, Bool.true_eq_false, false_implies, true_implies, true_and, and_true, msetK, hR, hg, hs]
   simp only [yY, entsG_kill]
   refine fun _ => ⟨rfl, entsG_keys, by omega, ⟨by omega, by omega⟩, by simp, ⟨by omega, by omega⟩, by omega, ⟨by omega, by omega⟩, ⟨by omega, by omega⟩, by simp, by omega, k + 1, ⟨by omega, by omega⟩, ⟨by omega, by rw [hst]; simp⟩, ⟨?_, ?_⟩, entsG_wf⟩
   ·rw [hst, entsG_app, yH, vC]; rfl
   ·rw [hst, yY, Int.zero_add]; rfl
 ·have hk : k = rs.length := by omega
  subst hk
  simp [qa, qb, qc, qd, qe, qf, qh, qi, qj, qk, ql, qm, qn, qo, qp, qq, qr, qs, qt, qu, qv, qw, qx, qy, qz, qA, qB, qC, qD, qE, qF, qG, qH, qI, qJ, qK, qL, qM, qN, rdK, qO, qP, qQ, qR, qS, qT, qU, qV, qW, qX, qY, qZ, za, zb, zc, zd, ze, zf, zg, zh, zi, zj, zk, zl, zm, zn, zo, zp, zq, zr, zt, zu, zv, zw, zx, zy, zz, zA, zB, zC, zD, zE, zF, zG, zH, zJ, zK, zL, zM, zN, zO, zP, zQ, zR, zS, zT, zU, zV, zW, zX, zY, zZ, ka, kc, ke, kf, kg, kh, ki, kj, kk, kn, ko, kp, kq, kr, kv, kw, kx, ky, kz, kA, kB, kC, kD, kF, kG, kH, kI, ofConst, cells?, yS, yJ, yV, splice, kJ, yA, vA, ↓reduceIte, Nat.reduceEqDiff, yE, kK, kL, arrSz, kM, yW, vB, ↓kN, ↓kO, kP, kQ, vW, vI, yQ, vC, Nat.reduceAdd, vJ, reduceCtorEq, freshP, vX, vY, slcOk, vZ, buildP, litsP, kR, resP, tupV, uA, uB, kS, leE, leH, leB, leV, leVs, keepP, liveP, wfE, wfB, wfV, wfL, killE, killB, kill, kills, St.kill, yM, yZ, uC, uD, uE, uF, uG, uH, isD, isC, uI, uJ, true_and, and_true, and_self, V.v.injEq, Value.int.injEq, Value.bool.injEq, yL, uK, or_false, false_or, yH, yG, uL, not_false_eq_true, yI, Nat.reduceLT, Nat.reduceLeDiff, yO, lg0, kT, kU, kV, kW, lg1, kX, kY, kZ, wa, lg2, wb, wc, wd, we, lg3, wg, wh, wi, wj, lg4, wl, wm, wn, wo, lg5, wq, wr, wt, wu, lg6, ww, wx, wy, wz, lg7, wB, wC, wD, wE, lg8, wF, wG, wH, wI, lg9, wJ, wK, wL, wM, wN, wO, wP, wQ, wR, wS, wU, wV, wW, wX, wY, wZ, ja, jb, jc, jd, je, jf, jg, jh, ji, jj, jk, jl, jm, jn, jo, jp, jq, jr, jt, ju, jv, jx, jy, jz, jA, jB, jC, jD, jE, jF, jG, jH, jI, jJ, jK, jL, jM, jN, jO, jP, jQ, jR, jS, jT, jU, jV, jW, jX, jY, jZ, qaa, ↓qab, ↓qac, ↓qad, ↓qae, ↓qaf, ↓qag, ↓qah, ↓qai, ↓qaj, ↓qak, ↓qal, ↓qam, ↓qan, ↓qao, ↓qap, ↓qaq, ↓qar, ↓qas, ↓qat, ↓qau, ↓qav, ↓qaw, ↓qax, ↓qay, ↓qaz, ↓qaA, ↓qaB, ↓qaC, ↓qaD, ↓qaE, ↓qaF, ↓qaG, ↓qaH, ↓qaI, ↓qaJ, ↓qaK, ↓qaL, ↓qaM, ↓qaN, ↓qaO, ↓qaP, ↓qaQ, ↓qaR, ↓qaS, ↓qaT, ↓qaU, ↓qaV, ↓qaW, ↓qaX, ↓qaY, ↓qaZ, ↓qba, ↓qbb, ↓qbc, ↓qbd, ↓qbe, ↓qbf, ↓qbg, ↓qbh, ↓qbi, ↓qbj, ↓qbk, ↓qbl, ↓qbm, ↓qbn, ↓qbo, ↓qbp, ↓qbq, ↓qbr, ↓qbs, ↓qbt, ↓qbu, ↓qbv, ↓qbw, ↓qbx, ↓qby, ↓qbz, ↓qbA, ↓qbB, ↓qbC, ↓qbD, ↓qbE, ↓qbF, ↓qbG, ↓qbH, ↓qbI, ↓qbJ, ↓qbK, ↓qbL, ↓qbM, ↓qbN, ↓qbO, ↓qbP, ↓qbQ, ↓qbR, ↓qbS, ↓qbT, ↓qbU, ↓qbV, ↓qbW, ↓qbX, ↓qbY, ↓qbZ, ↓qca, ↓qcb, ↓qcc, ↓qcd, ↓qce, ↓qcf, ↓qcg, ↓qch, ↓qci, ↓qcj, yG, uM, al_len, al_take, al_0, al_1, al_2, al_isC, al_isD, sp_len, sp_take, sp_0, sp_1, sp_2, sp_isC, sp_isD, rd_len, rd_take, rd_0, rd_1, rd_2, rd_3, rd_isC, rd_isD, enc_len, enc_take, enc_0, enc_1, enc_2, enc_3, enc_isC, enc_isD, encI_len, encI_0, encB_len, encB_0, yB, encI_drop, encB_drop, cxN, retP_eq]
  exact ⟨_, ⟨leH_rf _, by simp, by simp [wfB, wfL, wfV, liveP]; exact entsG_wf⟩, by simp [gvV, gvL, wk, wkR, wkL, blk, als]; exact yK (by simp)⟩
set_option maxRecDepth 20000
variable {ps : List Spot} {rs : List Road} {fr : Fr}
theorem chk_eAt (h : chkP ps rs = 0) : ∀ i, i < ps.length → eAt ps i = 0 := by
 unfold chkP at h
 by_cases h1 : 100 < ps.length ∨ 1500 < rs.length
 ·rw [if_pos h1] at h; cases h
 rw [if_neg h1] at h
 by_cases h2 : firstE (eAt ps) ps.length 0 ≠ 0
 ·rw [if_pos h2] at h; exact absurd h h2
 have key : ∀ n i, i ≤ n → i < ps.length → eAt ps i = 0 := by
  intro n
  induction n with
  | zero =>
   intro i hi hil
   by_cases h4 : eAt ps i = 0
   ·exact h4
   ·exact absurd (firstE_at (n := ps.length) (k := 0) (by omega) (by omega) (fun j _ hj => by omega) h4) (by simp only [ne_eq, Classical.not_not] at h2; rw [h2]; exact fun h5 => h4 h5.symm)
  | succ n ih =>
   intro i hi hil
   by_cases h4 : eAt ps i = 0
   ·exact h4
   ·exact absurd (firstE_at (n := ps.length) (k := 0) (by omega) (by omega) (fun j _ hj => ih j (by omega) (by omega)) h4) (by simp only [ne_eq, Classical.not_not] at h2; rw [h2]; exact fun h5 => h4 h5.symm)
 exact fun i hi => key i i (yO _) hi
set_option maxRecDepth 20000
def sameP (x y : Allot) : Bool := x.gate == y.gate && x.origin == y.origin
structure GInv (x : Allot) (b : List Allot) (k : Nat) : Prop where
 h : ∀ j (h : j < b.length), j < k → sameP x b[j] = false
set_option maxRecDepth 20000
def UqA : List Allot → Prop
 | [] => True
 | x :: L => (∀ y ∈ L, ¬ (y.gate = x.gate ∧ y.origin = x.origin)) ∧ UqA L
theorem addA_mem {g o n : Int} : ∀ {L : List Allot} {y : Allot}, y ∈ addA L g o n → (y.gate = g ∧ y.origin = o) ∨ ∃ z ∈ L, y.gate = z.gate ∧ y.origin = z.origin
 | [], y, h => by
  rw [addA] at h
  obtain rfl := vT.1 h
  exact .inl ⟨rfl, rfl⟩
 | x :: L, y, h => by
  rw [addA] at h
  by_cases h2 : x.gate = g ∧ x.origin = o
  ·rw [if_pos h2] at h
   rcases yL.1 h with rfl | h
   ·exact .inl ⟨rfl, rfl⟩
   ·exact .inr ⟨y, yP _ h, rfl, rfl⟩
  ·rw [if_neg h2] at h
   rcases yL.1 h with rfl | h
   ·exact .inr ⟨y, yN, rfl, rfl⟩
   ·rcases addA_mem h with h3 | ⟨z, hz, h3⟩
    ·exact .inl h3
    ·exact .inr ⟨z, yP _ hz, h3⟩
theorem addA_uq {g o n : Int} : ∀ {L : List Allot}, UqA L → UqA (addA L g o n)
 | [], _ => ⟨fun y hy => (by cases hy), trivial⟩
 | x :: L, h => by
  rw [addA]
  by_cases h2 : x.gate = g ∧ x.origin = o
  ·rw [if_pos h2]
   exact ⟨fun y hy h3 => h.1 y hy (by simp only at h3; omega), h.2⟩
  ·rw [if_neg h2]
   refine ⟨fun y hy h3 => ?_, addA_uq h.2⟩
   rcases addA_mem hy with h4 | ⟨z, hz, h4⟩
   ·exact h2 (by omega)
   ·exact h.1 z hz (by omega)
theorem alN_uq {ps : List Spot} {rs : List Road} {fr : Fr} : ∀ {k : Nat}, UqA (alN ps rs fr k)
 | 0 => trivial
 | k + 1 => by
  rw [alN]
  split
  ·exact addA_uq alN_uq
  ·exact alN_uq
set_option maxRecDepth 20000
def servI (ps : List Spot) (fr : Fr) (place : Int) : Int := if place < 0 ∨ (ps.length : Int) ≤ place then 0 else fr.fl place.toNat
theorem ok22g (ps : List Spot) (rs : List Road) (fr : Fr) (place : Int) (hl : ps.length ≤ fr.flow.length) : Ok 22 [plant ps rs, fr.enc, .i place] (Is (.i (servI ps fr place))) := by
 refine ok_of lw22 (by simp) ?_
 unfold c22 plant sps rds Fr.enc li
 simp -implicitDefEqProofs only [rX,↓rY,rZ,ofConst,cells?,↓reduceIte,Nat.reduceEqDiff,Nat.reduceAdd,reduceCtorEq,freshP,resP,tupV,wfV,cxN,args0]
 simp only [br, decide_eq_true_eq, decide_eq_false_iff_not, yB]
 refine ⟨fun h => by rw [servI, if_pos (.inl h)], fun h hm => ⟨fun h2 => by rw [servI, if_pos (.inr h2)], fun h2 => ⟨⟨by omega, by omega⟩, by omega, ?_⟩⟩⟩
 rw [servI, if_neg (by omega), Fr.fl, yA, yF (by omega), yE]
theorem ok23 (ps : List Spot) (rs : List Road) (fr : Fr) (place : Int) (hl : ps.length ≤ fr.flow.length) : Ok 23 [plant ps rs, fr.enc, .i place] (Is (.i (servI ps fr place))) := by
 refine ok_of lw23 (by simp) ?_
 unfold c23 plant sps rds Fr.enc li
 simp -implicitDefEqProofs only [rX,↓rY,rZ,ofConst,cells?,↓reduceIte,Nat.reduceEqDiff,Nat.reduceAdd,reduceCtorEq,freshP,resP,tupV,wfV,cxN,args0]
 simp only [br, decide_eq_true_eq, decide_eq_false_iff_not, yB]
 refine ⟨fun h => by rw [servI, if_pos (.inl h)], fun h hm => ⟨fun h2 => by rw [servI, if_pos (.inr h2)], fun h2 => ⟨⟨by omega, by omega⟩, by omega, ?_⟩⟩⟩
 rw [servI, if_neg (by omega), Fr.fl, yA, yF (by omega), yE]
theorem keptN_s {ps : List Spot} {fr : Fr} {k : Nat} : keptN ps fr (ofN ps 1 (k + 1)) = keptN ps fr (ofN ps 1 k) ++ (if isK ps 1 k = true ∧ fr.fl k < capAt ps k then [k] else []) := by
 simp only [keptN, ofN_succ, vO]
 congr 1
 cases hk : isK ps 1 k with
 | true =>
  by_cases hf : fr.fl k < capAt ps k
  ·have : ¬ capAt ps k ≤ fr.fl k := by omega
   simp [fullB, hf, this]
  ·have : capAt ps k ≤ fr.fl k := by omega
   simp [fullB, hf, this]
 | false => simp
theorem keptN_len {ps : List Spot} {fr : Fr} {k : Nat} : (keptN ps fr (ofN ps 1 k)).length ≤ k := uV (xG _ _) ofN_len
theorem ok28 (ps : List Spot) (rs : List Road) (fr : Fr) (hi : ps.length ≤ 10) (hl : ps.length ≤ fr.flow.length) : Ok 28 [plant ps rs, fr.enc] (Is (lnat (keptN ps fr (ofN ps 1 ps.length)))) := by
 refine okN_give (R := fun r hs => wk (lnat (keptN ps fr (ofN ps 1 ps.length))) (gvV (fun _ => true) hs r)) ?_ fun _ _ h => h
 refine ok_of lw28 (by simp) ?_
 unfold c28 plant sps rds Fr.enc li
 simp -implicitDefEqProofs only [rX,↓rY,ofConst,cells?,↓reduceIte,Nat.reduceEqDiff,Nat.reduceAdd,reduceCtorEq,freshP,cxN,args0]
 refine loopP_ghost (.virt 1 1 (by decide) (.nilE 5 2 rfl (.refl _))) (fun k : Nat => ⟨[(6, .i k), (5, .sl 2 0 (keptN ps fr (ofN ps 1 k)).length), (3, .ptr 1 0 0), (2, .ptr 0 0 0)], [plB ps rs, K.frB fr, .arr 1 ((keptN ps fr (ofN ps 1 k)).map nE)], 0⟩) (fun k => k ≤ ps.length) (fun k => ps.length - k) 0 (by omega) ?_ ?_
 ·simp -implicitDefEqProofs only [rX,↓reduceIte,Nat.reduceEqDiff,leE,leH,leB,leV,leVs,keepP,liveP,wfE,wfB,wfV,wfL,yD,K.frB,keptN,ofN,List.range_zero,List.filter_nil]
 rintro k hk
 unfold c28l0
 simp -implicitDefEqProofs only [rX,↓rY,rZ,ofConst,cells?,↓reduceIte,Nat.reduceEqDiff,Nat.reduceAdd,reduceCtorEq,freshP,litsP,leE,leH,leB,leV,leVs,keepP,liveP,wfE,wfB,wfV,wfL,killE,killB,kill,kills,St.kill,isD,Nat.reduceLT,K.frB]
 simp only [br, yB, decide_eq_true_eq, decide_eq_false_iff_not, beq_iff_eq, beq_eq_false_iff_ne]
 have hkl := keptN_len (ps := ps) (fr := fr) (k := k)
 have hs := keptN_s (ps := ps) (fr := fr) (k := k)
 refine fun hm => ⟨fun h => ?_, fun h => ?_⟩
 ·have hk2 : k < ps.length := by omega
  have hfk : fr.fl k = fr.flow[k] := by rw [Fr.fl, yA, yF (by omega), yE]
  rw [isK_lt hk2, hfk, capAt_lt hk2] at hs
  refine ⟨⟨by omega, h⟩, hk2, fun h1 => ⟨⟨by omega, by omega⟩, by omega, ⟨by omega, h⟩, hk2, fun h3 => ⟨by omega, by simp only [lo, Fx.hi]; omega, k + 1, ⟨by omega, by omega⟩, ⟨by omega, ?_⟩, ?_⟩, fun h3 => ⟨by simp only [lo, Fx.hi]; omega, k + 1, ⟨by omega, by omega⟩, ⟨by omega, ?_⟩, ?_⟩⟩, fun h1 => ⟨by simp only [lo, Fx.hi]; omega, k + 1, ⟨by omega, by omega⟩, ⟨by omega, ?_⟩, ?_⟩⟩
  ·rw [hs, if_pos ⟨by simpa using h1, h3⟩]; simp
  ·rw [hs, if_pos ⟨by simpa using h1, h3⟩, yK (by simp)]; simp [nE]
  ·rw [hs, if_neg (fun h4 => h3 h4.2)]; simp
  ·rw [hs, if_neg (fun h4 => h3 h4.2)]; simp
  ·rw [hs, if_neg (fun h4 => h1 (by simpa using h4.1))]; simp
  ·rw [hs, if_neg (fun h4 => h1 (by simpa using h4.1))]; simp
 ·have hk2 : k = ps.length := by omega
  subst hk2
  simp [qa, qb, qc, qd, qe, qf, qh, qi, qj, qk, ql, qm, qn, qo, qp, qq, qr, qs, qt, qu, qv, qw, qx, qy, qz, qA, qB, qC, qD, qE, qF, qG, qH, qI, qJ, qK, qL, qM, qN, rdK, qO, qP, qQ, qR, qS, qT, qU, qV, qW, qX, qY, qZ, za, zb, zc, zd, ze, zf, zg, zh, zi, zj, zk, zl, zm, zn, zo, zp, zq, zr, zt, zu, zv, zw, zx, zy, zz, zA, zB, zC, zD, zE, zF, zG, zH, zJ, zK, zL, zM, zN, zO, zP, zQ, zR, zS, zT, zU, zV, zW, zX, zY, zZ, ka, kc, ke, kf, kg, kh, ki, kj, kk, kn, ko, kp, kq, kr, kv, kw, kx, ky, kz, kA, kB, kC, kD, kF, kG, kH, kI, ofConst, cells?, yS, yJ, yV, splice, kJ, yA, vA, ↓reduceIte, Nat.reduceEqDiff, yE, kK, kL, arrSz, kM, yW, vB, ↓kN, ↓kO, kP, kQ, vW, vI, yQ, vC, Nat.reduceAdd, vJ, reduceCtorEq, freshP, vX, vY, slcOk, vZ, buildP, litsP, kR, resP, tupV, uA, uB, kS, leE, leH, leB, leV, leVs, keepP, liveP, wfE, wfB, wfV, wfL, killE, killB, kill, kills, St.kill, yM, yZ, uC, uD, uE, uF, uG, uH, isD, isC, uI, uJ, true_and, and_true, and_self, V.v.injEq, Value.int.injEq, Value.bool.injEq, yL, uK, or_false, false_or, yH, yG, uL, not_false_eq_true, yI, Nat.reduceLT, Nat.reduceLeDiff, yO, lg0, kT, kU, kV, kW, lg1, kX, kY, kZ, wa, lg2, wb, wc, wd, we, lg3, wg, wh, wi, wj, lg4, wl, wm, wn, wo, lg5, wq, wr, wt, wu, lg6, ww, wx, wy, wz, lg7, wB, wC, wD, wE, lg8, wF, wG, wH, wI, lg9, wJ, wK, wL, wM, wN, wO, wP, wQ, wR, wS, wU, wV, wW, wX, wY, wZ, ja, jb, jc, jd, je, jf, jg, jh, ji, jj, jk, jl, jm, jn, jo, jp, jq, jr, jt, ju, jv, jx, jy, jz, jA, jB, jC, jD, jE, jF, jG, jH, jI, jJ, jK, jL, jM, jN, jO, jP, jQ, jR, jS, jT, jU, jV, jW, jX, jY, jZ, qaa, ↓qab, ↓qac, ↓qad, ↓qae, ↓qaf, ↓qag, ↓qah, ↓qai, ↓qaj, ↓qak, ↓qal, ↓qam, ↓qan, ↓qao, ↓qap, ↓qaq, ↓qar, ↓qas, ↓qat, ↓qau, ↓qav, ↓qaw, ↓qax, ↓qay, ↓qaz, ↓qaA, ↓qaB, ↓qaC, ↓qaD, ↓qaE, ↓qaF, ↓qaG, ↓qaH, ↓qaI, ↓qaJ, ↓qaK, ↓qaL, ↓qaM, ↓qaN, ↓qaO, ↓qaP, ↓qaQ, ↓qaR, ↓qaS, ↓qaT, ↓qaU, ↓qaV, ↓qaW, ↓qaX, ↓qaY, ↓qaZ, ↓qba, ↓qbb, ↓qbc, ↓qbd, ↓qbe, ↓qbf, ↓qbg, ↓qbh, ↓qbi, ↓qbj, ↓qbk, ↓qbl, ↓qbm, ↓qbn, ↓qbo, ↓qbp, ↓qbq, ↓qbr, ↓qbs, ↓qbt, ↓qbu, ↓qbv, ↓qbw, ↓qbx, ↓qby, ↓qbz, ↓qbA, ↓qbB, ↓qbC, ↓qbD, ↓qbE, ↓qbF, ↓qbG, ↓qbH, ↓qbI, ↓qbJ, ↓qbK, ↓qbL, ↓qbM, ↓qbN, ↓qbO, ↓qbP, ↓qbQ, ↓qbR, ↓qbS, ↓qbT, ↓qbU, ↓qbV, ↓qbW, ↓qbX, ↓qbY, ↓qbZ, ↓qca, ↓qcb, ↓qcc, ↓qcd, ↓qce, ↓qcf, ↓qcg, ↓qch, ↓qci, ↓qcj, yG, uM, al_len, al_take, al_0, al_1, al_2, al_isC, al_isD, sp_len, sp_take, sp_0, sp_1, sp_2, sp_isC, sp_isD, rd_len, rd_take, rd_0, rd_1, rd_2, rd_3, rd_isC, rd_isD, enc_len, enc_take, enc_0, enc_1, enc_2, enc_3, enc_isC, enc_isD, encI_len, encI_0, encB_len, encB_0, yB, encI_drop, encB_drop, cxN, retP_eq]
  exact ⟨_, ⟨leH_rf _, by simp, by simp [wfB, wfL, wfV, liveP]⟩, by simp [gvV, gvL, wk, wkR, blk, lnat]; exact yK (by simp)⟩
def endN (ps : List Spot) : Nat → Nat
 | 0 => 0
 | k + 1 => endN ps k + (if isK ps 2 k then 0 else 1)
theorem endN_le {ps : List Spot} : ∀ {k : Nat}, endN ps k ≤ k
 | 0 => yO _
 | k + 1 => by
  have := endN_le (ps := ps) (k := k)
  simp only [endN]; split <;> omega
theorem ok55 (ps : List Spot) (rs : List Road) (hl : ps.length ≤ 100) : Ok 55 [plant ps rs] (Is (.i (endN ps ps.length))) := by
 refine ok_of lw55 (by simp) ?_
 unfold c55 plant sps rds
 simp -implicitDefEqProofs only [rX,↓rY,ofConst,cells?,↓reduceIte,freshP,cxN,args0]
 refine loopP_intro (fun k : Nat => ⟨[(4, .i k), (3, .i (endN ps k)), (1, .ptr 0 0 0)], [plB ps rs], 0⟩) (fun k => k ≤ ps.length) (fun k => ps.length - k) 0 (by omega) ?_ ?_
 ·simp -implicitDefEqProofs only [rX,↓reduceIte,Nat.reduceEqDiff,leE,leH,leB,leV,leVs,keepP,liveP,wfE,wfB,wfV,wfL,yD,endN]
 rintro k hk
 unfold c55l0
 simp -implicitDefEqProofs only [rX,↓rY,rZ,ofConst,↓reduceIte,Nat.reduceEqDiff,resP,tupV,leE,leH,leB,leV,leVs,keepP,liveP,wfE,wfB,wfV,wfL]
 simp only [br, yB, decide_eq_true_eq, decide_eq_false_iff_not, bne_iff_ne, bne_eq_false_iff_eq]
 have hel := endN_le (ps := ps) (k := k)
 refine fun hm => ⟨fun h => ?_, fun h => ?_⟩
 ·have hk2 : k < ps.length := by omega
  have hs : endN ps (k + 1) = endN ps k + (if ps[k].kind = 2 then 0 else 1) := by
   rw [endN, isK_lt hk2]
   simp
  refine ⟨⟨by omega, h⟩, hk2, fun h1 => ⟨by simp only [lo, hi]; omega, by simp only [lo, hi]; omega, k + 1, ⟨by omega, by omega⟩, by omega, ?_⟩, fun h1 => ⟨by simp only [lo, hi]; omega, k + 1, ⟨by omega, by omega⟩, by omega, ?_⟩⟩
  ·rw [hs, if_neg h1]; omega
  ·rw [hs, if_pos h1, vJ]
 ·have hk2 : k = ps.length := by omega
  rw [hk2]
theorem kinds {ps : List Spot} {rs : List Road} (h : chkP ps rs = 0) {i : Nat} (hi : i < ps.length) : ps[i].kind = 1 ∨ ps[i].kind = 2 ∨ ps[i].kind = 3 := by
 have h1 := chk_eAt h i hi
 rw [eAt_lt hi] at h1
 split at h1
 ·cases h1
 ·rename_i h2
  have h3 : RightP ps[i] := by simpa [rightB] using h2
  obtain ⟨_, h4⟩ := h3
  omega
theorem endN_is {ps : List Spot} {rs : List Road} (h : chkP ps rs = 0) : ∀ {k : Nat}, k ≤ ps.length → endN ps k = (ofN ps 1 k).length + (ofN ps 3 k).length
 | 0, _ => rfl
 | k + 1, hk => by
  have ih := endN_is h (k := k) (by omega)
  have h1 := kinds h (i := k) (by omega)
  rw [endN, ofN_succ, ofN_succ, isK_lt (by omega), isK_lt (by omega), isK_lt (by omega), ih, yH, yH]
  rcases h1 with h1 | h1 | h1 <;> simp [h1] <;> omega
def incA (g o n : Int) (x : Allot) : Allot := if x.gate = g ∧ x.origin = o then ⟨x.gate, x.origin, x.n + n⟩ else x
theorem incA_no {g o n : Int} : ∀ {L : List Allot}, L.any (sameG g o) = false → L.map (incA g o n) = L
 | [], _ => rfl
 | x :: L, h => by
  simp only [vD, xH] at h
  have h1 : ¬ (x.gate = g ∧ x.origin = o) := by
   have := h.1
   simpa [sameG] using this
  rw [yM, incA_no h.2, incA, if_neg h1]
theorem addA_is {g o n : Int} : ∀ {L : List Allot}, UqA L → addA L g o n = if L.any (sameG g o) then L.map (incA g o n) else L ++ [⟨g, o, n⟩]
 | [], _ => rfl
 | x :: L, h => by
  have ih := addA_is (g := g) (o := o) (n := n) h.2
  by_cases hx : x.gate = g ∧ x.origin = o
  ·have hno : L.any (sameG g o) = false := by
    rw [vE]
    intro y hy
    have := h.1 y hy
    simp only [sameG, uX, beq_iff_eq]
    omega
   have hs : sameG g o x = true := by simpa [sameG] using hx
   rw [addA, if_pos hx, vD, hs, Bool.true_or, if_pos rfl, yM, incA_no hno, incA, if_pos hx, hx.1, hx.2]
  ·have hs : sameG g o x = false := by
    cases e : sameG g o x with
    | false => rfl
    | true => exact absurd (by simpa [sameG] using e) hx
   rw [addA, if_neg hx, ih, vD, hs, uY, yM, incA, if_neg hx]
   split <;> rfl
set_option maxRecDepth 20000
def incK (L : List Allot) (g o n : Int) (k : Nat) : List Allot := (L.take k).map (incA g o n) ++ L.drop k
theorem incK_len {L : List Allot} {g o n : Int} {k : Nat} : (incK L g o n k).length = L.length := by
 simp [incK]; omega
theorem incK_get {L : List Allot} {g o n : Int} {k : Nat} (h : k < (incK L g o n k).length) : (incK L g o n k)[k] = L[k]'(by rw [incK_len] at h; exact h) := by
 have hk : k < L.length := by rw [incK_len] at h; exact h
 have e : (incK L g o n k)[k]? = some L[k] := by
  unfold incK
  rw [List.getElem?_append_right (by simp; omega)]
  simp [Nat.min_eq_left (Nat.le_of_lt hk)]
 rw [yF h] at e
 exact Option.some.inj e
theorem incK_yes {L : List Allot} {g o n : Int} {k : Nat} (hk : k < L.length) (h : L[k].gate = g ∧ L[k].origin = o) : (incK L g o n k).set k ⟨L[k].gate, L[k].origin, L[k].n + n⟩ = incK L g o n (k + 1) := by
 unfold incK
 rw [xK _ _ (by simp; omega), yT hk, yY]
 simp only [yG, vP, Nat.min_eq_left (Nat.le_of_lt hk), Nat.sub_self]
 rw [yU hk, yV]
 simp [incA, h]
theorem incK_no {L : List Allot} {g o n : Int} {k : Nat} (hk : k < L.length) (h : ¬ (L[k].gate = g ∧ L[k].origin = o)) : incK L g o n k = incK L g o n (k + 1) := by
 unfold incK
 rw [yT hk, yY, yU hk]
 simp [incA, h]
theorem any_s {L : List Allot} {g o : Int} {k : Nat} (hk : k < L.length) : (L.take (k + 1)).any (sameG g o) = ((L.take k).any (sameG g o) || sameG g o L[k]) := by
 rw [yT hk, List.any_append]; simp
section
variable (ps : List Spot) (rs : List Road) (fr : Fr)
def hB31 (L : List Allot) : List Blk := [plB ps rs, K.frB fr, .arr 3 (L.map Allot.enc)]
theorem ok31 (h : IsPlan ps rs fr) : Ok 31 [plant ps rs, fr.enc] (Is (als (alN ps rs fr rs.length))) := by
 refine okN_give (R := fun r hs => wk (als (alN ps rs fr rs.length)) (gvV (fun _ => true) hs r)) ?_ fun _ _ h => h
 refine ok_of lw31 (by simp) ?_
 unfold c31 plant sps rds Fr.enc li
 have hlen := h.len
 have hb := h.fl_b
 have he := endN_is h.chk (yO ps.length)
 have hfew := h.few
 simp -implicitDefEqProofs only [rX,↓rY,rdK,ofConst,cells?,↓reduceIte,Nat.reduceEqDiff,Nat.reduceAdd,reduceCtorEq,freshP,cxN,args0]
 refine fun hm1 => ?_
 refine call_is (ok55 ps rs (by omega)) (by simp [plant, sps, rds, lendsOk, lendOk, lends, lend, wkL, wk, wkR]) rfl trivial ?_
 simp -implicitDefEqProofs only [rX,↓rY,ofConst,↓reduceIte,Nat.reduceEqDiff,Nat.reduceAdd]
 have hel := endN_le (ps := ps) (k := ps.length)
 refine ⟨by simp only [lo, Fx.hi]; omega, ?_⟩
 refine loopP_ghost (.virt 1 3 (by decide) (.nilE 5 2 rfl (.refl _))) (fun k : Nat => ⟨[(7, .i k), (6, .i ((ps.length : Int) + (endN ps ps.length : Nat))), (5, .sl 2 0 (alN ps rs fr k).length), (3, .ptr 1 0 0), (2, .ptr 0 0 0)], hB31 ps rs fr (alN ps rs fr k), 0⟩) (fun k => k ≤ rs.length) (fun k => rs.length - k) 0 (by omega) ?_ ?_
 ·simp -implicitDefEqProofs only [rX,↓reduceIte,Nat.reduceEqDiff,leE,leH,leB,leV,leVs,keepP,liveP,wfE,wfB,wfV,wfL,yD,alN,hB31,K.frB]
 rintro k hk
 unfold c31l0 hB31
 simp -implicitDefEqProofs only [rX,↓rY,rZ,rdK,ofConst,cells?,splice,↓reduceIte,Nat.reduceEqDiff,Nat.reduceAdd,freshP,leE,leH,leB,leV,leVs,keepP,liveP,wfE,wfB,wfV,wfL,K.frB]
 simp only [br, yB, decide_eq_true_eq, decide_eq_false_iff_not]
 refine fun hm => ⟨fun h1 => ?_, fun h1 => ?_⟩
 ·have hkl : k < rs.length := by omega
  obtain ⟨s1, s2, _⟩ := h.snd hkl
  have eF : rdF ps rs k = ps[rs[k].from_.toNat]'(by omega) := by rw [rdF, getD_rs hkl, getD_ps]
  have eT : rdT ps rs k = ps[rs[k].to.toNat]'(by omega) := by rw [rdT, getD_rs hkl, getD_ps]
  have hst := alN.eq_2 ps rs fr k
  rw [eF, eT] at hst
  have hlk := alN_len (ps := ps) (rs := rs) (fr := fr) (k := k)
  have hin := alN_in (ps := ps) (rs := rs) hb (k := k)
  have hfr := hb (ps.length + (ofN ps 1 ps.length).length + (ofN ps 3 ps.length).length + k)
  have hq : ps.length + (ofN ps 1 ps.length).length + (ofN ps 3 ps.length).length + k < fr.flow.length := by omega
  have hix : ((ps.length : Int) + (endN ps ps.length : Nat) + (k : Int)).toNat = ps.length + (ofN ps 1 ps.length).length + (ofN ps 3 ps.length).length + k := by omega
  have hrd : ∀ hh : ((ps.length : Int) + (endN ps ps.length : Nat) + (k : Int)).toNat < fr.flow.length, fr.flow[((ps.length : Int) + (endN ps ps.length : Nat) + (k : Int)).toNat] = fr.rd ps k := by
   intro hh
   simp only [hix]
   rw [Fr.rd, Fr.fl, yA, yF hq, yE]
  rw [show fr.fl (ps.length + (ofN ps 1 ps.length).length + (ofN ps 3 ps.length).length + k) = fr.rd ps k from rfl] at hfr
  have h25 := h.few.2
  have huq := alN_uq (ps := ps) (rs := rs) (fr := fr) (k := k)
  refine ⟨⟨by omega, h1⟩, hkl, ⟨by omega, by omega⟩, by omega, ⟨by omega, h1⟩, hkl, ⟨by omega, by omega⟩, by omega, fun h3 => ?_, fun h3 => ⟨fun h4 => ?_, fun h4 => ?_⟩⟩
  ·rw [if_neg (by simp only [bne_iff_ne] at h3; omega)] at hst
   exact ⟨by simp only [lo, Fx.hi]; omega, k + 1, ⟨by omega, by omega⟩, ⟨by omega, by rw [hst]⟩, by rw [hst]⟩
  ·rw [if_neg (by simp only [bne_iff_ne] at h4; omega)] at hst
   exact ⟨by simp only [lo, Fx.hi]; omega, k + 1, ⟨by omega, by omega⟩, ⟨by omega, by rw [hst]⟩, by rw [hst]⟩
  rw [if_pos ⟨by simpa using h3, by simpa using h4⟩, addA_is huq] at hst
  generalize hL : alN ps rs fr k = L at *
  generalize hG : (ps[rs[k].from_.toNat]'(by omega)) = xa at *
  generalize hO : (ps[rs[k].to.toNat]'(by omega)) = xb at *
  generalize hN : fr.rd ps k = nn at *
  refine loopP_intro (fun j : Nat => ⟨[(11, .i j), (10, .b ((L.take j).any (sameG xa.num xb.num))), (9, .ptr 4 0 0), (8, .ptr 3 0 0), (7, .i k), (6, .i ((ps.length : Int) + (endN ps ps.length : Nat))), (5, .sl 2 0 L.length), (3, .ptr 1 0 0), (2, .ptr 0 0 0)], [plB ps rs, K.frB fr, .arr 3 ((incK L xa.num xb.num nn j).map Allot.enc), .var xa.enc, .var xb.enc], 0⟩) (fun j => j ≤ L.length) (fun j => L.length - j) 0 (by omega) ?_ ?_
  ·simp -implicitDefEqProofs only [rX,↓reduceIte,Nat.reduceEqDiff,leE,leH,leB,leV,leVs,keepP,liveP,wfE,wfB,wfV,wfL,yD,K.frB,incK,List.any_nil,Spot.enc]
  rintro j hj
  unfold c31l1
  simp -implicitDefEqProofs only [rX,↓rY,rZ,rdK,ofConst,cells?,splice,↓reduceIte,Nat.reduceEqDiff,arrSz,Nat.reduceAdd,reduceCtorEq,freshP,buildP,litsP,leE,leH,leB,leV,leVs,keepP,liveP,wfE,wfB,wfV,wfL,killE,killB,kill,kills,St.kill,isD,isC,Nat.reduceLT,Nat.reduceLeDiff,K.frB,incK_len,incK_get]
  simp only [br, yB, decide_eq_true_eq, decide_eq_false_iff_not, beq_iff_eq, beq_eq_false_iff_ne]
  have xle : leVs xa.enc xa.enc := by simp [Spot.enc, leVs, leV]
  have yle : leVs xb.enc xb.enc := by simp [Spot.enc, leVs, leV]
  have xwf : ∀ q : List Blk, wfL q xa.enc := fun q => by simp [Spot.enc, wfL, wfV]
  have ywf : ∀ q : List Blk, wfL q xb.enc := fun q => by simp [Spot.enc, wfL, wfV]
  refine fun hm3 => ⟨fun h5 => ?_, fun h5 => ?_⟩
  ·have hjl : j < L.length := by omega
   have hLn := hin _ (yC hjl)
   have hany := any_s (g := xa.num) (o := xb.num) hjl
   refine ⟨⟨by omega, h5⟩, hjl, fun h6 => ⟨⟨by omega, h5⟩, hjl, fun h7 => ⟨⟨by omega, h5⟩, hjl, ⟨by simp only [lo]; omega, by simp only [Fx.hi]; omega⟩, ⟨by omega, by omega⟩, by omega, ?_⟩, fun h7 => ?_⟩, fun h6 => ?_⟩
   ·rw [hrd]
    refine ⟨⟨by simp only [lo]; omega, by simp only [Fx.hi]; omega⟩, ⟨by omega, h5⟩, hjl, by simp only [lo, Fx.hi]; omega, j + 1, ⟨by omega, by omega⟩, ⟨by omega, ?_⟩, ⟨?_, xle, yle⟩, xwf _, ywf _⟩
    ·rw [hany]; simp [sameG, h6, h7]
    ·rw [← incK_yes hjl ⟨h6, h7⟩, uO]
     rfl
   ·have e : sameG xa.num xb.num L[j] = false := by simp [sameG, h7]
    exact ⟨by simp only [lo, Fx.hi]; omega, j + 1, ⟨by omega, by omega⟩, ⟨by omega, by rw [hany, e, Bool.or_false]⟩, ⟨by rw [incK_no hjl (fun h8 => h7 h8.2)], xle, yle⟩, xwf _, ywf _⟩
   ·have e : sameG xa.num xb.num L[j] = false := by simp [sameG, h6]
    exact ⟨by simp only [lo, Fx.hi]; omega, j + 1, ⟨by omega, by omega⟩, ⟨by omega, by rw [hany, e, Bool.or_false]⟩, ⟨by rw [incK_no hjl (fun h8 => h6 h8.1)], xle, yle⟩, xwf _, ywf _⟩
  ·have hjl : j = L.length := by omega
   subst hjl
   rw [uP]
   have einc : incK L xa.num xb.num nn L.length = L.map (incA xa.num xb.num nn) := by simp [incK]
   rw [einc]
   cases hany : L.any (sameG xa.num xb.num) with
   | true =>
    rw [hany, if_pos rfl] at hst
    simp -implicitDefEqProofs only [rX]
    exact ⟨fun h8 => h8.elim, fun _ => ⟨by simp only [lo, Fx.hi]; omega, k + 1, ⟨by omega, by omega⟩, ⟨by omega, by rw [hst, yG]⟩, by rw [hst]⟩⟩
   | false =>
    rw [hany, if_neg (by simp)] at hst
    rw [incA_no hany]
    simp -implicitDefEqProofs only [rX,reduceCtorEq]
    refine ⟨fun _ => ⟨⟨by simp only [lo]; omega, by simp only [Fx.hi]; omega⟩, ⟨by omega, by omega⟩, by omega, ?_⟩, fun h8 => h8.elim⟩
    rw [hrd]
    refine ⟨by omega, by simp only [lo, Fx.hi]; omega, k + 1, ⟨by omega, by omega⟩, ⟨by omega, by rw [hst, yH]; rfl⟩, ?_⟩
    rw [hst, yY, yK (by simp)]
    rfl
 ·have hkl : k = rs.length := by omega
  subst hkl
  simp [qa, qb, qc, qd, qe, qf, qh, qi, qj, qk, ql, qm, qn, qo, qp, qq, qr, qs, qt, qu, qv, qw, qx, qy, qz, qA, qB, qC, qD, qE, qF, qG, qH, qI, qJ, qK, qL, qM, qN, rdK, qO, qP, qQ, qR, qS, qT, qU, qV, qW, qX, qY, qZ, za, zb, zc, zd, ze, zf, zg, zh, zi, zj, zk, zl, zm, zn, zo, zp, zq, zr, zt, zu, zv, zw, zx, zy, zz, zA, zB, zC, zD, zE, zF, zG, zH, zJ, zK, zL, zM, zN, zO, zP, zQ, zR, zS, zT, zU, zV, zW, zX, zY, zZ, ka, kc, ke, kf, kg, kh, ki, kj, kk, kn, ko, kp, kq, kr, kv, kw, kx, ky, kz, kA, kB, kC, kD, kF, kG, kH, kI, ofConst, cells?, yS, yJ, yV, splice, kJ, yA, vA, ↓reduceIte, Nat.reduceEqDiff, yE, kK, kL, arrSz, kM, yW, vB, ↓kN, ↓kO, kP, kQ, vW, vI, yQ, vC, Nat.reduceAdd, vJ, reduceCtorEq, freshP, vX, vY, slcOk, vZ, buildP, litsP, kR, resP, tupV, uA, uB, kS, leE, leH, leB, leV, leVs, keepP, liveP, wfE, wfB, wfV, wfL, killE, killB, kill, kills, St.kill, yM, yZ, uC, uD, uE, uF, uG, uH, isD, isC, uI, uJ, true_and, and_true, and_self, V.v.injEq, Value.int.injEq, Value.bool.injEq, yL, uK, or_false, false_or, yH, yG, uL, not_false_eq_true, yI, Nat.reduceLT, Nat.reduceLeDiff, yO, lg0, kT, kU, kV, kW, lg1, kX, kY, kZ, wa, lg2, wb, wc, wd, we, lg3, wg, wh, wi, wj, lg4, wl, wm, wn, wo, lg5, wq, wr, wt, wu, lg6, ww, wx, wy, wz, lg7, wB, wC, wD, wE, lg8, wF, wG, wH, wI, lg9, wJ, wK, wL, wM, wN, wO, wP, wQ, wR, wS, wU, wV, wW, wX, wY, wZ, ja, jb, jc, jd, je, jf, jg, jh, ji, jj, jk, jl, jm, jn, jo, jp, jq, jr, jt, ju, jv, jx, jy, jz, jA, jB, jC, jD, jE, jF, jG, jH, jI, jJ, jK, jL, jM, jN, jO, jP, jQ, jR, jS, jT, jU, jV, jW, jX, jY, jZ, qaa, ↓qab, ↓qac, ↓qad, ↓qae, ↓qaf, ↓qag, ↓qah, ↓qai, ↓qaj, ↓qak, ↓qal, ↓qam, ↓qan, ↓qao, ↓qap, ↓qaq, ↓qar, ↓qas, ↓qat, ↓qau, ↓qav, ↓qaw, ↓qax, ↓qay, ↓qaz, ↓qaA, ↓qaB, ↓qaC, ↓qaD, ↓qaE, ↓qaF, ↓qaG, ↓qaH, ↓qaI, ↓qaJ, ↓qaK, ↓qaL, ↓qaM, ↓qaN, ↓qaO, ↓qaP, ↓qaQ, ↓qaR, ↓qaS, ↓qaT, ↓qaU, ↓qaV, ↓qaW, ↓qaX, ↓qaY, ↓qaZ, ↓qba, ↓qbb, ↓qbc, ↓qbd, ↓qbe, ↓qbf, ↓qbg, ↓qbh, ↓qbi, ↓qbj, ↓qbk, ↓qbl, ↓qbm, ↓qbn, ↓qbo, ↓qbp, ↓qbq, ↓qbr, ↓qbs, ↓qbt, ↓qbu, ↓qbv, ↓qbw, ↓qbx, ↓qby, ↓qbz, ↓qbA, ↓qbB, ↓qbC, ↓qbD, ↓qbE, ↓qbF, ↓qbG, ↓qbH, ↓qbI, ↓qbJ, ↓qbK, ↓qbL, ↓qbM, ↓qbN, ↓qbO, ↓qbP, ↓qbQ, ↓qbR, ↓qbS, ↓qbT, ↓qbU, ↓qbV, ↓qbW, ↓qbX, ↓qbY, ↓qbZ, ↓qca, ↓qcb, ↓qcc, ↓qcd, ↓qce, ↓qcf, ↓qcg, ↓qch, ↓qci, ↓qcj, yG, uM, al_len, al_take, al_0, al_1, al_2, al_isC, al_isD, sp_len, sp_take, sp_0, sp_1, sp_2, sp_isC, sp_isD, rd_len, rd_take, rd_0, rd_1, rd_2, rd_3, rd_isC, rd_isD, enc_len, enc_take, enc_0, enc_1, enc_2, enc_3, enc_isC, enc_isD, encI_len, encI_0, encB_len, encB_0, yB, encI_drop, encB_drop, cxN, retP_eq, K.frB]
  exact ⟨_, ⟨leH_rf _, by simp, by simp [wfB, wfL, wfV, liveP]⟩, by simp [gvV, gvL, wk, wkR, blk, als]; exact yK (by simp)⟩
end
end Go.Fx.P
namespace Go.Fx.P.K
open Go Go.Fx Go.Proofs
set_option maxRecDepth 20000
def rowF (N : Nat) (f : Int → Int) : List (List V) := (vR N).map fun j : Nat => encI (f j)
theorem rowF_len {N : Nat} {f : Int → Int} : (rowF N f).length = N := by simp [rowF]
theorem rowF_get {N : Nat} {f : Int → Int} {i : Nat} (h : i < (rowF N f).length) : (rowF N f)[i] = encI (f i) := by simp [rowF]
theorem rowF_set {N : Nat} {f : Int → Int} {i : Nat} {x : Int} : (rowF N f).set i [.v (.int .i64 x)] = rowF N (fun j => if j = i then x else f j) := by
 apply vK
 ·simp [rowF]
 ·intro j h1 h2
  simp only [List.getElem_set, rowF_get]
  by_cases h : i = j
  ·subst h; simp [encI]
  ·have : ¬ (j : Int) = i := by omega
   simp [h, this]
theorem rowF_congr {N : Nat} {f g : Int → Int} (h : ∀ i : Nat, i < N → f i = g i) : rowF N f = rowF N g := by
 simp only [rowF, List.map_inj_left, uU]
 intro i hi
 rw [h i hi]
theorem rowF_rep {N : Nat} {x : Int} : vG N [V.v (.int .i64 x)] = rowF N (fun _ => x) := by
 apply vK
 ·simp [rowF]
 ·intro i h1 h2
  simp [rowF, encI]
def rowB (N : Nat) (f : Int → Bool) : List (List V) := (vR N).map fun j : Nat => encB (f j)
theorem rowB_len {N : Nat} {f : Int → Bool} : (rowB N f).length = N := by simp [rowB]
theorem rowB_get {N : Nat} {f : Int → Bool} {i : Nat} (h : i < (rowB N f).length) : (rowB N f)[i] = encB (f i) := by simp [rowB]
theorem rowB_set {N : Nat} {f : Int → Bool} {i : Nat} {x : Bool} : (rowB N f).set i [.v (.bool x)] = rowB N (fun j => if j = i then x else f j) := by
 apply vK
 ·simp [rowB]
 ·intro j h1 h2
  simp only [List.getElem_set, rowB_get]
  by_cases h : i = j
  ·subst h; simp [encB]
  ·have : ¬ (j : Int) = i := by omega
   simp [h, this]
theorem rowB_congr {N : Nat} {f g : Int → Bool} (h : ∀ i : Nat, i < N → f i = g i) : rowB N f = rowB N g := by
 simp only [rowB, List.map_inj_left, uU]
 intro i hi
 rw [h i hi]
theorem rowB_rep {N : Nat} {x : Bool} : vG N [V.v (.bool x)] = rowB N (fun _ => x) := by
 apply vK
 ·simp [rowB]
 ·intro i h1 h2
  simp [rowB, encB]
theorem valTo_bound2 (arcs : List Arc) (node : Int) (flow : List Int) : ∀ k : Nat, (∀ j, j < k → 0 ≤ flow.getD j 0 ∧ flow.getD j 0 ≤ 1073741824) → -((k : Int) * 1073741824) ≤ valTo arcs node flow k ∧ valTo arcs node flow k ≤ (k : Int) * 1073741824
 | 0, _ => by simp [valTo]
 | k + 1, hf => by
  have h1 := valTo_bound2 arcs node flow k fun j hj => hf j (by omega)
  have h2 := hf k (by omega)
  simp only [valTo]
  split <;> split <;> omega
theorem totTo_bound2 (arcs : List Arc) (flow : List Int) (ha : ∀ a ∈ arcs, 0 ≤ a.cost ∧ a.cost ≤ 1048576) : ∀ k : Nat, (∀ j, j < k → 0 ≤ flow.getD j 0 ∧ flow.getD j 0 ≤ 1073741824) → 0 ≤ totTo arcs flow k ∧ totTo arcs flow k ≤ (k : Int) * 1125899906842624
 | 0, _ => by simp [totTo]
 | k + 1, hf => by
  have h1 := totTo_bound2 arcs flow ha k fun j hj => hf j (by omega)
  have h2 := hf k (by omega)
  have h3 : 0 ≤ (arcs.getD k ⟨0,0,0,0⟩).cost ∧ (arcs.getD k ⟨0,0,0,0⟩).cost ≤ 1048576 := by
   rw [yA]
   cases h : arcs[k]? with
   | none => simp
   | some x => exact ha x (List.mem_of_getElem? h)
  have := mul_b h2 h3
  simp only [totTo]
  omega
open Classical in
noncomputable def flwB (n : Int) (arcs : List Arc) (f t : Int) (fr : Fr) : Bool := decide (OkF n arcs f t fr.flow ∧ valTo arcs f fr.flow arcs.length = fr.sent ∧ totTo arcs fr.flow arcs.length = fr.cost)
theorem flwB_t {n : Int} {arcs : List Arc} {f t : Int} {fr : Fr} (h : OkF n arcs f t fr.flow ∧ valTo arcs f fr.flow arcs.length = fr.sent ∧ totTo arcs fr.flow arcs.length = fr.cost) : flwB n arcs f t fr = true := by simp [flwB, h]
theorem flwB_f {n : Int} {arcs : List Arc} {f t : Int} {fr : Fr} (h : ¬ (OkF n arcs f t fr.flow ∧ valTo arcs f fr.flow arcs.length = fr.sent ∧ totTo arcs fr.flow arcs.length = fr.cost)) : flwB n arcs f t fr = false := by simp only [flwB, h, decide_false]
structure ZInw (arcs : List Arc) (f t s : Int) (flow : List Int) (k : Nat) : Prop where
 h : ∀ j : Nat, j < k → ((j : Int) ≠ f → (j : Int) ≠ t → valTo arcs j flow arcs.length = 0) ∧ ((j : Int) = f → valTo arcs j flow arcs.length = s)
theorem ok67 (N : Nat) (arcs : List Arc) (f t : Int) (fr : Fr) (hV : Val N arcs) (hf : 0 ≤ f ∧ f < N) : Ok 67 [net N arcs, .i f, .i t, fr.enc] (Is (.b (flwB N arcs f t fr))) := by
 refine ok_of lw67 (by simp) ?_
 unfold c67 net Fr.enc li
 have hL := hV.hl
 have hN := hV.hn
 have hac := fun a ha => (hV.ha a ha).2.2.2.2
 simp -implicitDefEqProofs only [rX,↓rY,ofConst,cells?,↓reduceIte,Nat.reduceEqDiff,Nat.reduceAdd,reduceCtorEq,freshP,resP,tupV,wfV,cxN,args0]
 simp only [br, decide_eq_true_eq, decide_eq_false_iff_not, bne_iff_ne, bne_eq_false_iff_eq]
 refine fun hm1 hm2 => ⟨fun h => (flwB_f fun hO => ?_).symm, fun h => ⟨by omega, fun _ => ?_⟩⟩
 ·have := hO.1.hl; omega
 have hl : fr.flow.length = arcs.length := by omega
 refine loopP_intro (fun k : Nat => ⟨[(29, .i k), (28, .i arcs.length), (27, .ro 4 (arcs.map Arc.enc)), (10, .i (totTo arcs fr.flow k)), (9, .sl 2 0 N), (7, .ptr 1 0 0), (4, .ptr 0 0 0), (2, .i t), (1, .i f)], [.var [.i N, .ro 4 (arcs.map Arc.enc)], frB fr, .arr 1 (rowF N (fun j => valTo arcs j fr.flow k))], 0⟩) (fun k => k ≤ arcs.length ∧ PInv arcs fr.flow k) (fun k => arcs.length - k) 0 ⟨by omega, ⟨by simp⟩⟩ ?_ ?_
 ·have h0 : rowF N (fun j => valTo arcs j fr.flow 0) = vG N [V.i 0] := by rw [rowF_rep]; rfl
  simp -implicitDefEqProofs only [rX,↓reduceIte,Nat.reduceEqDiff,reduceCtorEq,leE,leH,leB,leV,leVs,keepP,liveP,wfE,wfB,wfV,wfL,leVs,leV,yD,frB,h0,totTo]
 rintro k ⟨hk, hv⟩
 simp -implicitDefEqProofs only [rX,↓rY,rZ,ofConst,cells?,splice,↓reduceIte,Nat.reduceEqDiff,arrSz,Nat.reduceAdd,freshP,resP,tupV,leE,leH,leB,leV,leVs,keepP,liveP,wfE,wfB,wfV,wfL,isD,isC,frB,rowF_len,rowF_get,rowF_set]
 simp only [br, decide_eq_true_eq, decide_eq_false_iff_not]
 refine ⟨fun h2 => ?_, fun h2 => ?_⟩
 ·have hk1 : k < arcs.length := by omega
  have hk2 : k < fr.flow.length := by omega
  have hva := hV.ha arcs[k] (yC hk1)
  have bad : ¬ (0 ≤ fr.flow[k] ∧ fr.flow[k] ≤ arcs[k].cap) → false = flwB N arcs f t fr := fun h => (flwB_f fun hO => h (hO.1.hp k hk2 hk1)).symm
  have good : (0 ≤ fr.flow[k] ∧ fr.flow[k] ≤ arcs[k].cap) → PInv arcs fr.flow (k + 1) := by
   refine fun hx => ⟨fun j h3 h4 h5 => ?_⟩
   by_cases h6 : j = k
   ·subst h6; exact hx
   ·exact hv.h j h3 h4 (by omega)
  have hfb : ∀ j, j < k → 0 ≤ fr.flow.getD j 0 ∧ fr.flow.getD j 0 ≤ 1073741824 := by
   intro j hj
   have h1 := hv.h j (by omega) (by omega) hj
   have h3 := hV.ha arcs[j] (yC _)
   rw [getD_nat (by omega)]
   omega
  have hb1 := valTo_bound2 arcs arcs[k].from_ fr.flow k hfb
  have hb2 := valTo_bound2 arcs arcs[k].to fr.flow k hfb
  have hb3 := totTo_bound2 arcs fr.flow hac k hfb
  have e1 : ((arcs[k].from_.toNat : Nat) : Int) = arcs[k].from_ := by omega
  have e2 : ((arcs[k].to.toNat : Nat) : Int) = arcs[k].to := by omega
  have e3 : ¬ arcs[k].to = arcs[k].from_ := by omega
  refine ⟨⟨by omega, h2⟩, by omega, ⟨by omega, by omega⟩, by omega, fun h3 => bad (by omega), fun h3 => ⟨fun h4 => bad (by omega), fun h4 => ?_⟩⟩
  have hfk : 0 ≤ fr.flow[k] ∧ fr.flow[k] ≤ 1073741824 := by omega
  have hmb := mul_b hfk hva.2.2.2.2
  have hst := totTo_step hk1 hk2
  simp only [e1, e2, e3, if_false, lo, hi, rowF_len]
  repeat' (first | (refine ⟨(k+1 : _), ?_⟩) | (refine ⟨by omega, ?_⟩) | (refine And.intro ?_ ?_) | (refine (fun _ => ?_)))
  all_goals first | omega | (apply good; omega) | skip
  congr 1
  apply rowF_congr
  intro i hi
  simp only [valTo_step (node := i) hk1 hk2]
  grind
 have hp : possP arcs fr.flow := fun i h3 h4 => hv.h i h3 h4 (by omega)
 have hk0 : k = arcs.length := by omega
 subst hk0
 refine fun _ => loopP_intro (fun k : Nat => ⟨[(72, .i k), (71, .i N), (70, .sl 2 0 N), (10, .i (totTo arcs fr.flow arcs.length)), (7, .ptr 1 0 0), (2, .i t), (1, .i f)], [.dead, frB fr, .arr 1 (rowF N (fun j => valTo arcs j fr.flow arcs.length))], 0⟩) (fun k => k ≤ N ∧ ZInw arcs f t fr.sent fr.flow k) (fun k => N - k) 0 ⟨by omega, ⟨by simp⟩⟩ ?_ ?_
 ·simp -implicitDefEqProofs only [rX,↓reduceIte,Nat.reduceEqDiff,leE,leH,leB,leV,leVs,keepP,liveP,wfE,wfB,wfV,wfL,leVs,leV,yD,frB]
 rintro k ⟨hk, hv⟩
 simp -implicitDefEqProofs only [rX,↓rY,rZ,ofConst,↓reduceIte,Nat.reduceEqDiff,arrSz,Nat.reduceAdd,resP,tupV,leE,leH,leB,leV,leVs,keepP,liveP,wfE,wfB,wfV,wfL,frB,rowF_len,rowF_get]
 simp only [br, decide_eq_true_eq, decide_eq_false_iff_not, bne_iff_ne, bne_eq_false_iff_eq, beq_iff_eq, beq_eq_false_iff_ne]
 refine ⟨fun h3 => ?_, fun h3 => ?_⟩
 ·have h4 : k < N := by omega
  have bad1 : (k : Int) = f → valTo arcs k fr.flow arcs.length ≠ fr.sent → false = flwB N arcs f t fr := fun h h5 => (flwB_f fun hO => h5 (by rw [h]; exact hO.2.1)).symm
  have bad2 : (k : Int) ≠ f → (k : Int) ≠ t → valTo arcs k fr.flow arcs.length ≠ 0 → false = flwB N arcs f t fr := fun h h5 h6 => (flwB_f fun hO => h6 (hO.1.hz k (by omega) (by omega) h h5)).symm
  have good : ((k : Int) ≠ f → (k : Int) ≠ t → valTo arcs k fr.flow arcs.length = 0) ∧ ((k : Int) = f → valTo arcs k fr.flow arcs.length = fr.sent) → ZInw arcs f t fr.sent fr.flow (k + 1) := by
   refine fun h5 => ⟨fun j hj => ?_⟩
   by_cases h6 : j = k
   ·subst h6; exact h5
   ·exact hv.h j (by omega)
  simp only [lo, hi, maxLen, rowF_len] at *
  repeat' (first | (refine ⟨(k+1 : _), ?_⟩) | (refine ⟨by omega, ?_⟩) | (refine And.intro ?_ ?_) | (refine (fun _ => ?_)))
  all_goals first | omega | exact bad1 ‹_› ‹_› | exact bad2 ‹_› ‹_› ‹_› | (exact good ⟨fun _ _ => by first | assumption | omega, fun _ => by first | assumption | omega⟩)
 ·have hOF : OkF N arcs f t fr.flow := ⟨hl, hp, fun j h1 h2 h4 h6 => by
   have := (hv.h j.toNat (by omega)).1
   rw [yX h1] at this
   exact this h4 h6⟩
  have hval : valTo arcs f fr.flow arcs.length = fr.sent := by
   have := (hv.h f.toNat (by omega)).2
   rw [yX hf.1] at this
   exact this rfl
  by_cases hc : totTo arcs fr.flow arcs.length = fr.cost <;> simp [flwB, hOF, hval, hc]
end Go.Fx.P.K
namespace Go.Fx.P.K
open Go Go.Fx Go.Proofs
abbrev gA (arcs : List Arc) (k : Nat) : Arc := arcs.getD k ⟨0,0,0,0⟩
theorem gA_at {arcs : List Arc} {k : Nat} (h : k < arcs.length) : gA arcs k = arcs[k] := by
 unfold gA
 rw [yA, yF h]; rfl
theorem Val.at {N : Nat} {arcs : List Arc} (hV : Val N arcs) {k : Nat} (hk : k < arcs.length) : (0 ≤ (gA arcs k).from_ ∧ (gA arcs k).from_ < N) ∧ (0 ≤ (gA arcs k).to ∧ (gA arcs k).to < N) ∧ (gA arcs k).from_ ≠ (gA arcs k).to ∧ (0 ≤ (gA arcs k).cap ∧ (gA arcs k).cap ≤ 1073741824) ∧ 0 ≤ (gA arcs k).cost ∧ (gA arcs k).cost ≤ 1048576 := by
 rw [gA_at hk]
 exact hV.ha arcs[k] (yC hk)
end Go.Fx.P.K
namespace Go.Fx.P.K
open Go Go.Fx Go.Proofs
set_option maxRecDepth 20000
def encN (i : Nat) : List V := [.i i]
def outs (arcs : List Arc) (v : Nat) (k : Nat) : List Nat := (vR k).filter fun i => decide ((gA arcs i).from_ = v ∨ (gA arcs i).to = v)
theorem wfL_all {h : List Blk} : ∀ {xs : List V}, (∀ x ∈ xs, wfV h x) → wfL h xs
 | [], _ => trivial
 | x :: r, hx => ⟨hx x yN, wfL_all fun y hy => hx y (yP _ hy)⟩
end Go.Fx.P.K
namespace Go.Fx.P.K
open Go Go.Fx Go.Proofs
set_option maxRecDepth 20000
theorem getD_set0 {l : List Int} {i j : Nat} {x : Int} (h : i < l.length) : (l.set i x).getD j 0 = if j = i then x else l.getD j 0 := by
 rw [yA, List.getElem?_set]
 by_cases e : i = j
 ·subst e; simp [h]
 ·rw [if_neg e, if_neg (Ne.symm e), yA]
end Go.Fx.P.K
namespace Go.Fx.P.K
open Go Go.Fx Go.Proofs
set_option maxRecDepth 20000
end Go.Fx.P.K
namespace Go.Fx.P.K
open Go Go.Fx Go.Proofs
set_option maxRecDepth 20000
end Go.Fx.P.K
namespace Go.Fx.P.K
open Go Go.Fx Go.Proofs
set_option maxRecDepth 20000
end Go.Fx.P.K
namespace Go.Fx.P.K
open Go Go.Fx Go.Proofs
set_option maxRecDepth 20000
section
end
end Go.Fx.P.K
namespace Go.Fx.P.K
open Go Go.Fx Go.Proofs
set_option maxRecDepth 20000
theorem encN_0 (i : Nat) : (encN i)[0]? = some (.i i) := rfl
section
end
end Go.Fx.P.K
namespace Go.Fx.Lb
theorem nodup_le : ∀ (N : Nat) (l : List Nat), l.Nodup → (∀ x ∈ l, x < N) → l.length ≤ N
 | 0, l, _, h => by
  cases l with
  | nil => simp
  | cons x r => exact absurd (h x (by simp)) (by omega)
 | N + 1, l, hn, h => by
  have h1 : (l.erase N).Nodup := hn.erase N
  have h2 : ∀ x ∈ l.erase N, x < N := by
   intro x hx
   have h3 := h x (List.mem_of_mem_erase hx)
   have h4 : x ≠ N := fun e => by subst e; exact (hn.mem_erase_iff.1 hx).1 rfl
   omega
  have h5 := nodup_le N _ h1 h2
  have h6 : l.length ≤ (l.erase N).length + 1 := by
   rw [List.length_erase]; split <;> omega
  omega
def upd {α : Type} (f : Nat → α) (v : Nat) (x : α) : Nat → α := fun u => if u = v then x else f u
structure Gr where
 N : Nat
 s : Nat
 src : Nat → Nat
 dst : Nat → Nat
 c : Nat → Int
 res : Nat → Prop
 π : Nat → Int
 hs : s < N
 hN : ∀ i, res i → src i < N ∧ dst i < N
 hπ : ∀ i, res i → 0 ≤ c i + π (src i) - π (dst i)
section
variable (G : Gr)
def PR : Nat → List Nat → Prop
 | v, [] => v = G.s
 | v, i :: r => G.res i ∧ G.dst i = v ∧ PR (G.src i) r
def cs : List Nat → Int
 | [] => 0
 | i :: r => G.c i + cs r
def vs : Nat → List Nat → List Nat
 | v, [] => [v]
 | v, i :: r => v :: vs (G.src i) r
end
end Go.Fx.Lb
namespace Go.Fx.P.K
open Go Go.Fx Go.Proofs
theorem OkF.at {n : Int} {arcs : List Arc} {f t : Int} {x : List Int} (h : OkF n arcs f t x) {k : Nat} (hk : k < arcs.length) : 0 ≤ x.getD k 0 ∧ x.getD k 0 ≤ (gA arcs k).cap := by
 have hl := h.hl
 have := h.hp k (by omega) hk
 rw [gA_at hk, getD_nat (by omega)]
 exact this
theorem OkC.cut {N : Nat} {arcs : List Arc} (hV : Val N arcs) {f t : Int} (hf : 0 ≤ f ∧ f < N) (ht : 0 ≤ t ∧ t < N) {x cut : List Int} (h : OkC N arcs f t x cut) : ∀ k, k < arcs.length → (hasB cut ((gA arcs k).from_.toNat : Int) = true → hasB cut ((gA arcs k).to.toNat : Int) = false → x.getD k 0 = (gA arcs k).cap) ∧ (hasB cut ((gA arcs k).to.toNat : Int) = true → hasB cut ((gA arcs k).from_.toNat : Int) = false → x.getD k 0 = 0) := by
 intro k hk
 have hv := hV.at hk
 have := h.ha.h k hk hk
 rw [yX hv.1.1, yX hv.2.1.1, gA_at hk]
 exact this
end Go.Fx.P.K
namespace Go.Fx.P.K
open Go Go.Fx Go.Proofs
def wsrc (arcs : List Arc) (i : Nat) : Nat := if i % 2 = 0 then (gA arcs (i / 2)).from_.toNat else (gA arcs (i / 2)).to.toNat
def wdst (arcs : List Arc) (i : Nat) : Nat := if i % 2 = 0 then (gA arcs (i / 2)).to.toNat else (gA arcs (i / 2)).from_.toNat
def wcst (arcs : List Arc) (i : Nat) : Int := if i % 2 = 0 then (gA arcs (i / 2)).cost else -(gA arcs (i / 2)).cost
def wrm (arcs : List Arc) (x : List Int) (i : Nat) : Int := if i % 2 = 0 then (gA arcs (i / 2)).cap - x.getD (i / 2) 0 else x.getD (i / 2) 0
def wres (arcs : List Arc) (x : List Int) (i : Nat) : Prop := i / 2 < arcs.length ∧ 0 < wrm arcs x i
def rcst (arcs : List Arc) (p : Nat → Int) (i : Nat) : Int := wcst arcs i + p (wsrc arcs i) - p (wdst arcs i)
section
end
end Go.Fx.P.K
namespace Go.Fx.P.K
open Go Go.Fx Go.Proofs
theorem getD_set {l : List Int} {i j : Nat} {x : Int} (h : i < l.length) : (l.set i x).getD j 0 = if j = i then x else l.getD j 0 := getD_set0 h
section
end
end Go.Fx.P.K
namespace Go.Fx.P.K
open Go Go.Fx Go.Proofs
theorem valTo_set {arcs : List Arc} {x : List Int} {k : Nat} {v : Int} (u : Int) (hk : k < x.length) : ∀ m, valTo arcs u (x.set k v) m = valTo arcs u x m + (if k < m then (if (gA arcs k).from_ = u then v - x.getD k 0 else 0) - (if (gA arcs k).to = u then v - x.getD k 0 else 0) else 0)
 | 0 => by simp [valTo]
 | m + 1 => by
  have e1 : ∀ y : List Int, valTo arcs u y (m + 1) = valTo arcs u y m + (if (gA arcs m).from_ = u then y.getD m 0 else 0) - (if (gA arcs m).to = u then y.getD m 0 else 0) := fun _ => rfl
  rw [e1, e1, valTo_set u hk m, getD_set hk]
  by_cases e : m = k
  ·subst e
   rw [if_pos rfl, if_neg (Nat.lt_irrefl _), if_pos (Nat.lt_succ_self _)]
   split <;> split <;> omega
  ·rw [if_neg e]
   generalize valTo arcs u x m = V
   generalize (if (gA arcs m).from_ = u then x.getD m 0 else 0) = F
   generalize (if (gA arcs m).to = u then x.getD m 0 else 0) = G
   generalize (if (gA arcs k).from_ = u then v - x.getD k 0 else 0) = A
   generalize (if (gA arcs k).to = u then v - x.getD k 0 else 0) = B
   by_cases e2 : k < m
   ·rw [if_pos e2, if_pos (by omega)]; omega
   ·rw [if_neg e2, if_neg (by omega)]; omega
section
variable {N : Nat} {arcs : List Arc} {x : List Int} {p : Nat → Int} {to : Nat} {d : List Bool} {v : Nat} {most : Int}
theorem cnt_le : ∀ {a b : List Bool}, a.length = b.length → (∀ u, a.getD u false = true → b.getD u false = true) → b.count false ≤ a.count false
 | [], b, hl, _ => by cases b <;> simp_all
 | x :: a, [], hl, _ => by simp at hl
 | x :: a, y :: b, hl, h => by
  have h0 := h 0
  have := cnt_le (a := a) (b := b) (by simpa using hl) fun u hu => by have := h (u + 1); simpa using this (by simpa using hu)
  simp only [uZ]
  cases x <;> cases y <;> simp at * <;> omega
theorem cnt_lt : ∀ {a b : List Bool} {v : Nat}, a.length = b.length → (∀ u, a.getD u false = true → b.getD u false = true) → v < a.length → a.getD v false = false → b.getD v false = true → b.count false < a.count false
 | [], b, v, hl, _, hv, _, _ => by simp at hv
 | x :: a, [], v, hl, _, _, _, _ => by simp at hl
 | x :: a, y :: b, 0, hl, h, hv, h1, h2 => by
  have := cnt_le (a := a) (b := b) (by simpa using hl) fun u hu => by have := h (u + 1); simpa using this (by simpa using hu)
  simp only [uZ]
  simp at h1 h2
  subst h1 h2
  simp; omega
 | x :: a, y :: b, v + 1, hl, h, hv, h1, h2 => by
  have h0 := h 0
  have := cnt_lt (a := a) (b := b) (v := v) (by simpa using hl) (fun u hu => by have := h (u + 1); simpa using this (by simpa using hu)) (by simpa using hv) (by simpa using h1) (by simpa using h2)
  simp only [uZ]
  cases x <;> cases y <;> simp at * <;> omega
end
end Go.Fx.P.K
namespace Go.Fx.P.K
open Go Go.Fx Go.Proofs
set_option maxRecDepth 20000
section
end
end Go.Fx.P.K
namespace Go.Fx.P.K
open Go Go.Fx Go.Proofs
set_option maxRecDepth 20000
section
end
end Go.Fx.P.K
namespace Go.Fx.P.K
open Go Go.Fx Go.Proofs
set_option maxRecDepth 20000
section
end
end Go.Fx.P.K
namespace Go.Fx.P.K
open Go Go.Fx Go.Proofs
set_option maxRecDepth 20000
section
end
end Go.Fx.P.K
namespace Go.Fx.P.K
open Go Go.Fx Go.Proofs
set_option maxRecDepth 20000
section
end
end Go.Fx.P.K
namespace Go.Fx.P.K
open Go Go.Fx Go.Proofs
set_option maxRecDepth 20000
section
end
end Go.Fx.P.K
namespace Go.Fx.P.K
open Go Go.Fx Go.Proofs
def Reach (arcs : List Arc) (x p : List Int) (f t : Nat) : Prop := ∀ S : Nat → Prop, S f → (∀ i, wres arcs x i → rcst arcs (fun u => p.getD u 0) i = 0 → S (wsrc arcs i) → S (wdst arcs i)) → S t
section
end
end Go.Fx.P.K
namespace Go.Fx.P.K
open Go Go.Fx Go.Proofs
set_option maxRecDepth 20000
section
end
end Go.Fx.P.K
namespace Go.Fx.P.K
open Go Go.Fx Go.Proofs
set_option maxRecDepth 20000
def badP (x : Int) : Bool := decide (x < 0 ∨ 1073741824 < x)
theorem ok95 (x : Int) : Ok 95 [.i x] (Is (.b (badP x))) := by
 refine ok_of lw95 (by simp) ?_
 unfold c95
 simp -implicitDefEqProofs only [rX,↓rY,ofConst,↓reduceIte,Nat.reduceEqDiff,reduceCtorEq,resP,tupV,wfV,cxN,args0]
 simp only [br, decide_eq_true_eq, decide_eq_false_iff_not, badP]
 grind
def firstB (l : List Int) : Int := if l.any badP then (l.findIdx badP : Nat) else -1
structure GInv (l : List Int) (k : Nat) : Prop where
 h : ∀ j (h : j < l.length), j < k → badP l[j] = false
theorem ok82 (l : List Int) : Ok 82 [li l, .clo 95 []] (Is (.i (firstB l))) := by
 refine ok_of lw82 (by simp) ?_
 unfold c82 li
 simp -implicitDefEqProofs only [rX,↓rY,ofConst,↓reduceIte,reduceCtorEq,cxN,args0]
 intro hm
 refine loopP_intro (fun k : Nat => ⟨[(8, .i k), (7, .i l.length), (1, .clo 95 []), (0, .ro 1 (l.map encI))], [], 0⟩) (fun k => k ≤ l.length ∧ GInv l k) (fun k => l.length - k) 0 ⟨by omega, ⟨by simp⟩⟩ ?_ ?_
 ·simp -implicitDefEqProofs only [rX,↓reduceIte,Nat.reduceEqDiff,reduceCtorEq,leE,leH,keepP,wfE,wfB,wfV,wfL,yD]
 rintro k ⟨hk, hv⟩
 unfold c82l0
 simp -implicitDefEqProofs only [rX,↓rY,rZ,ofConst,↓reduceIte,Nat.reduceEqDiff,reduceCtorEq,resP,tupV,wfV]
 simp only [br, yB, decide_eq_true_eq, decide_eq_false_iff_not]
 refine ⟨fun h => ⟨⟨by omega, h⟩, by omega, ?_⟩, fun h => ?_⟩
 ·have hk : k < l.length := by omega
  refine call_is (ok95 l[k]) ?_ rfl trivial ?_
  ·simp [lendsOk, lendOk, lends, lend, wkL, wk, pos]
  cases hb : badP l[k] with
  | true =>
   simp -implicitDefEqProofs only [rX,↓rY,↓reduceIte,Nat.reduceEqDiff,resP,tupV,wfV]
   have h1 : l.any badP = true := by
    rw [vL]; exact ⟨_, yC hk, hb⟩
   have h2 : l.findIdx badP = k := by
    rw [List.findIdx_eq hk]
    exact ⟨hb, fun j hj => hv.h j (by omega) hj⟩
   simp [firstB, h1, h2]
  | false =>
   simp -implicitDefEqProofs only [rX,↓rY,ofConst,↓reduceIte,Nat.reduceEqDiff,reduceCtorEq,leE,leH,keepP,wfE,wfB,wfV,wfL]
   refine ⟨by simp only [lo, hi, maxLen] at *; omega, k + 1, ⟨⟨by omega, ⟨fun j hj h2 => ?_⟩⟩, by omega⟩, by simp⟩
   by_cases h3 : j = k
   ·subst h3; exact hb
   ·exact hv.h j hj (by omega)
 ·have h1 : l.any badP = false := by
   rw [vE]
   intro x hx
   obtain ⟨j, hj, rfl⟩ := vM hx
   simp [hv.h j hj (by omega)]
  simp [firstB, h1]
theorem ok94 (l : List Int) : Ok 94 [li l, .clo 95 []] (Is (.b (l.any badP))) := by
 refine ok_of lw94 (by simp) ?_
 unfold c94 li
 simp -implicitDefEqProofs only [rX,ofConst,↓reduceIte,Nat.reduceEqDiff,reduceCtorEq,cxN,args0]
 refine call_is (ok82 l) ?_ rfl trivial ?_
 ·simp [li, lendsOk, lendOk, lends, lend, wkL, wk, wkR]
 simp -implicitDefEqProofs only [rX,↓rY,ofConst,↓reduceIte,resP,tupV,wfV,firstB]
 by_cases h : l.any badP = true
 ·simp [h]
 ·simp only [h, if_false]; simp
theorem ok68 (N : Nat) (arcs : List Arc) (f : Int) (fr : Fr) (hV : Val N arcs) (hf : 0 ≤ f ∧ f < N) (hl : fr.flow.length = arcs.length) : Ok 68 [net N arcs, .i f, fr.enc] (Is (.b (prB N arcs f fr.flow fr.price))) := by
 refine ok_of lw68 (by simp) ?_
 unfold c68 net Fr.enc li
 simp -implicitDefEqProofs only [rX,↓rY,rZ,ofConst,cells?,↓reduceIte,Nat.reduceEqDiff,Nat.reduceAdd,reduceCtorEq,freshP,resP,tupV,wfV,cxN,args0]
 simp only [br, decide_eq_true_eq, decide_eq_false_iff_not, bne_iff_ne, bne_eq_false_iff_eq]
 have hL := hV.hl
 have hN := hV.hn
 refine fun hm1 => ⟨fun h => prB_f fun hO => ?_, fun h => ?_⟩
 ·have := hO.hl; omega
 have hpl : fr.price.length = N := by omega
 refine ⟨⟨hf.1, by omega⟩, by omega, fun h0 => prB_f fun hO => ?_, fun h0 => ?_⟩
 ·have := hO.h0
  rw [getD_at (by omega)] at this
  exact h0 this
 refine call_is (ok94 fr.price) (by simp [li, lendsOk, lendOk, lends, lend, wkL, wk, wkR]) rfl trivial ?_
 cases hb : fr.price.any badP with
 | true =>
  simp -implicitDefEqProofs only [rX,↓rY,ofConst,↓reduceIte,Nat.reduceEqDiff,Nat.reduceAdd,resP,tupV,wfV]
  refine prB_f fun hO => ?_
  rw [vL] at hb
  obtain ⟨x, hx, hb⟩ := hb
  obtain ⟨j, hj, rfl⟩ := vM hx
  have := hO.hb j hj
  simp only [badP, decide_eq_true_eq] at hb
  omega
 | false =>
 have hb : ∀ j (h : j < fr.price.length), 0 ≤ fr.price[j] ∧ fr.price[j] ≤ 1073741824 := by
  intro j hj
  rw [vE] at hb
  have := hb _ (yC hj)
  simp only [badP, decide_eq_true_eq] at this
  omega
 simp -implicitDefEqProofs only [rX,↓rY,ofConst,↓reduceIte,Nat.reduceEqDiff,Nat.reduceAdd]
 refine fun _ => loopP_intro (fun k : Nat => ⟨[(32, .i k), (31, .i arcs.length), (30, .ro 4 (arcs.map Arc.enc)), (5, .ptr 1 0 0), (3, .ptr 0 0 0), (1, .i f)], [.var [.i N, .ro 4 (arcs.map Arc.enc)], frB fr], 0⟩) (fun k => k ≤ arcs.length ∧ RInv arcs fr.flow fr.price k) (fun k => arcs.length - k) 0 ⟨by omega, ⟨by simp⟩⟩ ?_ ?_
 ·simp -implicitDefEqProofs only [rX,↓reduceIte,Nat.reduceEqDiff,reduceCtorEq,leE,leH,leB,leV,leVs,keepP,liveP,wfE,wfB,wfV,wfL,leVs,leV,yD,frB]
 rintro k ⟨hk, hv⟩
 simp -implicitDefEqProofs only [rX,↓rY,rZ,ofConst,cells?,splice,↓reduceIte,Nat.reduceEqDiff,Nat.reduceAdd,freshP,resP,tupV,leE,leH,leB,leV,leVs,keepP,liveP,wfE,wfB,wfV,wfL,frB]
 simp only [br, decide_eq_true_eq, decide_eq_false_iff_not]
 refine ⟨fun h2 => ?_, fun h2 => ?_⟩
 ·have hk1 : k < arcs.length := by omega
  have hk2 : k < fr.flow.length := by omega
  have hva := hV.ha arcs[k] (yC hk1)
  have b1 := hb arcs[k].from_.toNat (by omega)
  have b2 := hb arcs[k].to.toNat (by omega)
  have bad : ¬ (_ ∧ _) → false = prB N arcs f fr.flow fr.price := fun h => prB_f fun hO => h (hO.ha k hk1)
  have good := hv.next hk1
  rw [getD_at (by omega), getD_at (by omega), getD_nat hk2] at bad good
  simp only [lo, hi, maxLen] at *
  repeat' (first | (refine ⟨(k+1 : _), ?_⟩) | (refine ⟨by omega, ?_⟩) | (refine And.intro ?_ ?_) | (refine (fun _ => ?_)))
  all_goals first | omega | (apply bad; omega) | (apply good; omega)
 ·refine prB_t ⟨hpl, ?_, hb, fun j hj => hv.h j hj (by omega)⟩
  rw [getD_at (by omega)]; exact h0
end Go.Fx.P.K
namespace Go.Fx.P.K
open Go Go.Fx Go.Proofs
set_option maxRecDepth 20000
theorem hasB_take {l : List Int} {k : Nat} (h : k < l.length) (x : Int) : hasB (l.take (k + 1)) x = if x = l[k] then true else hasB (l.take k) x := by
 simp only [hasB, yT h, List.mem_append, vT]
 by_cases hx : x = l[k]
 ·simp only [hx, or_true, if_true, decide_true]
 ·simp only [hx, or_false, if_false]
theorem ok69 (N : Nat) (arcs : List Arc) (f t : Int) (fr : Fr) (hV : Val N arcs) (hf : 0 ≤ f ∧ f < N) (ht : 0 ≤ t ∧ t < N) (hl : fr.flow.length = arcs.length) : Ok 69 [net N arcs, .i f, .i t, fr.enc] (Is (.b (cuB N arcs f t fr.flow fr.cut))) := by
 refine ok_of lw69 (by simp) ?_
 unfold c69 net Fr.enc li
 simp -implicitDefEqProofs only [rX,↓rY,ofConst,cells?,↓reduceIte,Nat.reduceEqDiff,Nat.reduceAdd,reduceCtorEq,freshP,cxN,args0]
 have hL := hV.hl
 have hN := hV.hn
 refine ⟨by omega, fun hm => ?_⟩
 refine loopP_intro (fun k : Nat => ⟨[(20, .i k), (19, .i fr.cut.length), (18, .ro 1 (fr.cut.map encI)), (9, .sl 2 0 N), (7, .ptr 1 0 0), (4, .ptr 0 0 0), (2, .i t), (1, .i f)], [.var [.i N, .ro 4 (arcs.map Arc.enc)], frB fr, .arr 1 (rowB N (fun j => hasB (fr.cut.take k) j))], 0⟩) (fun k => k ≤ fr.cut.length ∧ OkS N fr.cut k) (fun k => fr.cut.length - k) 0 ⟨by omega, ⟨by simp⟩⟩ ?_ ?_
 ·have h0 : rowB N (fun j => hasB [] j) = vG N [V.b false] := by rw [rowB_rep]; rfl
  simp -implicitDefEqProofs only [rX,↓reduceIte,Nat.reduceEqDiff,reduceCtorEq,leE,leH,leB,leV,leVs,keepP,liveP,wfE,wfB,wfV,wfL,leVs,leV,yD,frB,h0]
 rintro k ⟨hk, hv⟩
 simp -implicitDefEqProofs only [rX,↓rY,rZ,ofConst,cells?,splice,↓reduceIte,Nat.reduceEqDiff,arrSz,Nat.reduceAdd,resP,tupV,leE,leH,leB,leV,leVs,keepP,liveP,wfE,wfB,wfV,wfL,isD,isC,frB,rowB_len,rowB_get,rowB_set]
 simp only [br, decide_eq_true_eq, decide_eq_false_iff_not]
 refine ⟨fun h2 => ?_, fun h2 => ?_⟩
 ·have hk1 : k < fr.cut.length := by omega
  have good := hv.next hk1
  have bad : ¬ ((0 ≤ fr.cut[k] ∧ fr.cut[k] < N) ∧ (0 < k → fr.cut.getD (k - 1) 0 < fr.cut[k])) → false = cuB N arcs f t fr.flow fr.cut := fun h => cuB_f fun hO => h (hO.hs.h k hk1 hk1)
  have hp : 0 < k → fr.cut.getD (k - 1) 0 = fr.cut[((k : Int) - 1).toNat]'(by omega) := by
   intro h0
   have e1 : ((k : Int) - 1).toNat = k - 1 := by omega
   simp only [e1]
   exact getD_nat (by omega)
  have hrow : ∀ i : Nat, i < N → (if (i : Int) = (fr.cut[k].toNat : Nat) then true else hasB (fr.cut.take k) i) = hasB (fr.cut.take (k + 1)) i ∨ ¬ (0 ≤ fr.cut[k]) := by
   intro i hi
   rw [hasB_take hk1]
   by_cases h0 : 0 ≤ fr.cut[k]
   ·left; rw [yX h0]
   ·right; exact h0
  simp only [br, decide_eq_true_eq, decide_eq_false_iff_not, lo, hi, maxLen] at *
  repeat' (first | (refine ⟨(k+1 : _), ?_⟩) | (refine ⟨by omega, ?_⟩) | (refine And.intro ?_ ?_) | (refine (fun _ => ?_)))
  all_goals first | omega | (apply bad; rintro ⟨_, h4⟩; have h4 := h4 (by omega); rw [hp (by omega)] at h4; omega) | (apply bad; omega) | (apply good; refine ⟨by omega, fun h0 => ?_⟩; rw [hp h0]; omega) | (apply good; refine ⟨by omega, fun h0 => ?_⟩; omega) | (congr 1; apply rowB_congr; intro i hi; exact (hrow i hi).resolve_right (by omega))
 have hs : OkS N fr.cut fr.cut.length := ⟨fun j h _ => hv.h j h (by omega)⟩
 have hk0 : fr.cut.take k = fr.cut := yK (by omega)
 rw [hk0]
 have e1 : ((f.toNat : Nat) : Int) = f := yX hf.1
 have e2 : ((t.toNat : Nat) : Int) = t := yX ht.1
 simp only [e1, e2]
 refine ⟨hf, by omega, fun h3 => cuB_f fun hO => ?_, fun h3 => ⟨ht, by omega, fun h4 => cuB_f fun hO => ?_, fun h4 => ?_⟩⟩
 ·have := hO.hf; simp [this] at h3
 ·have := hO.ht; simp [this] at h4
 have h3 : hasB fr.cut f = true := by simpa using h3
 refine fun _ => loopP_intro (fun k : Nat => ⟨[(65, .i k), (64, .i arcs.length), (63, .ro 4 (arcs.map Arc.enc)), (9, .sl 2 0 N), (7, .ptr 1 0 0)], [.dead, frB fr, .arr 1 (rowB N (fun j => hasB fr.cut j))], 0⟩) (fun k => k ≤ arcs.length ∧ OkA arcs fr.flow fr.cut k) (fun k => arcs.length - k) 0 ⟨by omega, ⟨by simp⟩⟩ ?_ ?_
 ·simp -implicitDefEqProofs only [rX,↓reduceIte,Nat.reduceEqDiff,leE,leH,leB,leV,leVs,keepP,liveP,wfE,wfB,wfV,wfL,leVs,leV,yD,frB]
 rintro k ⟨hk, hv⟩
 simp -implicitDefEqProofs only [rX,↓rY,rZ,ofConst,cells?,splice,↓reduceIte,Nat.reduceEqDiff,arrSz,Nat.reduceAdd,freshP,resP,tupV,leE,leH,leB,leV,leVs,keepP,liveP,wfE,wfB,wfV,wfL,frB,rowB_len,rowB_get]
 simp only [br, decide_eq_true_eq, decide_eq_false_iff_not]
 refine ⟨fun h5 => ?_, fun h2 => cuB_t ⟨hs, h3, h4, ⟨fun j h _ => hv.h j h (by omega)⟩⟩⟩
 have hk1 : k < arcs.length := by omega
 have hk2 : k < fr.flow.length := by omega
 have hva := hV.ha arcs[k] (yC hk1)
 have good := hv.next hk1
 have bad : ¬ (_ ∧ _) → false = cuB N arcs f t fr.flow fr.cut := fun h => cuB_f fun hO => h (hO.ha.h k hk1 hk1)
 rw [getD_nat hk2] at good bad
 have e3 : ((arcs[k].from_.toNat : Nat) : Int) = arcs[k].from_ := by omega
 have e4 : ((arcs[k].to.toNat : Nat) : Int) = arcs[k].to := by omega
 simp only [e3, e4] at *
 generalize hasB fr.cut arcs[k].from_ = x at *
 generalize hasB fr.cut arcs[k].to = y at *
 cases x <;> cases y <;> simp only [br, bne_iff_ne, bne_eq_false_iff_eq, lo, hi, maxLen, yW, vB, forall_const, yI, reduceCtorEq, false_implies, true_implies, and_true, true_and] at * <;>
  (repeat' (first | (refine ⟨(k+1 : _), ?_⟩) | (refine ⟨by omega, ?_⟩) | (refine And.intro ?_ ?_) | (refine (fun _ => ?_)))) <;> first | omega | exact good ‹_› | exact bad ‹_› | exact good | (apply bad; simp; omega) | (apply good; simp; try omega) | (apply good; done) | trivial
theorem ok48 (N : Nat) (arcs : List Arc) (f t am : Int) (fr : Fr) (hV : Val N arcs) (hf : 0 ≤ f ∧ f < N) (ht : 0 ≤ t ∧ t < N) : Ok 48 [net N arcs, .i f, .i t, .i am, fr.enc] (Is (.i (accI N arcs f t am fr))) := by
 refine ok_of lw48 (by simp) ?_
 unfold c48 net Fr.enc li
 have hL := hV.hl
 have hN := hV.hn
 simp -implicitDefEqProofs only [rX,↓rY,ofConst,cells?,↓reduceIte,Nat.reduceEqDiff,Nat.reduceAdd,reduceCtorEq,freshP,resP,tupV,wfV,cxN,args0]
 simp only [br, decide_eq_true_eq, decide_eq_false_iff_not]
 refine ⟨fun h => accI_f fun hO => by have := hO.hs; omega, fun h0 => ⟨fun h => accI_f fun hO => by have := hO.hs; omega, fun h1 => ?_⟩⟩
 refine call_is (ok67 N arcs f t fr hV hf) (by simp [Fr.enc, net, li, lendsOk, lendOk, lends, lend, wkL, wk, wkR]) rfl trivial ?_
 cases hfl : flwB N arcs f t fr with
 | false =>
  simp -implicitDefEqProofs only [rX,↓rY,ofConst,↓reduceIte,Nat.reduceEqDiff,Nat.reduceAdd,resP,tupV,wfV]
  exact accI_f fun hO => by rw [flwB_t ⟨hO.fl, hO.hv, hO.ht⟩] at hfl; cases hfl
 | true =>
 have hfl : OkF N arcs f t fr.flow ∧ valTo arcs f fr.flow arcs.length = fr.sent ∧ totTo arcs fr.flow arcs.length = fr.cost := by
  apply Classical.byContradiction
  intro h
  rw [flwB_f h] at hfl; cases hfl
 have hl := hfl.1.hl
 simp -implicitDefEqProofs only [rX,↓rY,↓reduceIte,Nat.reduceEqDiff,Nat.reduceAdd,reduceCtorEq]
 refine call_is (ok68 N arcs f fr hV hf hl) (by simp [Fr.enc, net, li, lendsOk, lendOk, lends, lend, wkL, wk, wkR]) rfl trivial ?_
 cases hp : prB N arcs f fr.flow fr.price with
 | false =>
  simp -implicitDefEqProofs only [rX,↓rY,ofConst,↓reduceIte,Nat.reduceEqDiff,Nat.reduceAdd,resP,tupV,wfV]
  exact accI_f fun hO => by have := prB_t hO.hp; rw [hp] at this; cases this
 | true =>
 have hp : OkP N arcs f fr.flow fr.price := by
  apply Classical.byContradiction
  intro h
  have := prB_f h; rw [hp] at this; cases this
 simp -implicitDefEqProofs only [rX,↓rY,ofConst,↓reduceIte,Nat.reduceEqDiff,Nat.reduceAdd,reduceCtorEq,resP,tupV,wfV]
 simp only [br, beq_iff_eq, beq_eq_false_iff_ne, decide_eq_true_eq, decide_eq_false_iff_not]
 refine ⟨fun h4 => fun _ => ⟨fun h5 => accI_t ⟨hfl.1, by omega, hfl.2.1, hfl.2.2, hp, ?_⟩, fun h5 => ⟨fun h6 => by omega, fun h6 => accI_f fun hO => ?_⟩⟩, fun h4 => ⟨fun h5 => ?_, fun h5 => accI_f fun hO => ?_⟩⟩
 ·rw [if_pos h4]
  exact List.length_eq_zero_iff.1 (by omega)
 ·have := hO.hc
  rw [if_pos h4] at this
  rw [this] at h5
  simp at h5
 ·refine call_is (ok69 N arcs f t fr hV hf ht hl) (by simp [Fr.enc, net, li, lendsOk, lendOk, lends, lend, wkL, wk, wkR]) rfl trivial ?_
  cases hc : cuB N arcs f t fr.flow fr.cut with
  | false =>
   simp -implicitDefEqProofs only [rX,↓rY,ofConst,↓reduceIte,Nat.reduceEqDiff,Nat.reduceAdd,resP,tupV,wfV]
   exact accI_f fun hO => by have h6 := hO.hc; rw [if_neg h4] at h6; have := cuB_t h6; rw [hc] at this; cases this
  | true =>
  have hc : OkC N arcs f t fr.flow fr.cut := by
   apply Classical.byContradiction
   intro h
   have := cuB_f h; rw [hc] at this; cases this
  simp -implicitDefEqProofs only [rX,↓rY,ofConst,↓reduceIte,Nat.reduceEqDiff,Nat.reduceAdd,resP,tupV,wfV]
  exact accI_t ⟨hfl.1, by omega, hfl.2.1, hfl.2.2, hp, by rw [if_neg h4]; exact hc⟩
 ·have := hO.hs; omega
end Go.Fx.P.K
namespace Go.Fx.P.K
open Go Go.Fx Go.Proofs
set_option maxRecDepth 20000
end Go.Fx.P.K
namespace Go.Fx.P.K
open Go Go.Fx Go.Proofs
set_option maxRecDepth 20000
section
end
end Go.Fx.P.K
namespace Go.Fx.P
open Go Go.Fx Go.Proofs
set_option maxRecDepth 20000
open Classical in
noncomputable def accP (ps : List Spot) (rs : List Road) (fr : Fr) : Int := if chkP ps rs ≠ 0 then chkP ps rs else K.accI (nN ps) (netOf ps rs) 0 1 (dem ps) fr
theorem ok20 (ps : List Spot) (rs : List Road) (fr : Fr) : Ok 20 [plant ps rs, fr.enc] (Is (.i (accP ps rs fr))) := by
 refine ok_of lw20 (by simp) ?_
 unfold c20 plant sps rds Fr.enc li
 simp -implicitDefEqProofs only [rX,↓rY,ofConst,cells?,↓reduceIte,Nat.reduceEqDiff,Nat.reduceAdd,reduceCtorEq,freshP,cxN,args0]
 refine call_is (ok11 ps rs) (by simp [plant, sps, rds, lendsOk, lendOk, lends, lend, wkL, wk, wkR]) rfl trivial ?_
 by_cases hc : chkP ps rs = 0
 ·obtain ⟨⟨hl, hr⟩, hcap, hv⟩ := chk_caps hc
  have hV := net_val hc
  have e : ((nN ps : Nat) : Int) = 2 + 2 * ps.length := by simp [nN]
  simp -implicitDefEqProofs only [rX,↓rY,rdK,ofConst,↓reduceIte,Nat.reduceEqDiff,Nat.reduceAdd,resP,tupV,wfV,hc,bne_self_eq_false]
  refine call_is (ok15 ps rs hl hr hv) (by simp [plant, sps, rds, lendsOk, lendOk, lends, lend, wkL, wk, wkR]) rfl trivial ?_
  simp -implicitDefEqProofs only [rX,↓reduceIte,Nat.reduceEqDiff]
  refine call_is (ok17 ps rs hl hcap) (by simp [plant, sps, rds, lendsOk, lendOk, lends, lend, wkL, wk, wkR]) rfl trivial ?_
  simp -implicitDefEqProofs only [rX,ofConst,↓reduceIte,Nat.reduceEqDiff]
  rw [nN_eq]
  refine call_is (K.ok48 (nN ps) (netOf ps rs) 0 1 (dem ps) fr hV (by omega) (by omega)) (by simp [net, Fr.enc, li, lendsOk, lendOk, lends, lend, wkL, wk, wkR]) rfl trivial ?_
  simp -implicitDefEqProofs only [rX,↓reduceIte,resP,tupV,wfV,accP,hc]
  simp
 ·have hb : (chkP ps rs != 0) = true := by simpa using hc
  simp -implicitDefEqProofs only [rX,↓rY,rdK,ofConst,↓reduceIte,Nat.reduceEqDiff,Nat.reduceAdd,resP,tupV,wfV,hb]
  rw [accP, if_pos hc]
set_option maxRecDepth 20000
set_option maxRecDepth 20000
def sameAl (a b : List Allot) : Bool := decide (a = b)
structure SInv (a b : List Allot) (k : Nat) : Prop where
 h : ∀ j (h1 : j < a.length) (h2 : j < b.length), j < k → a[j] = b[j]
theorem ok29 (a b : List Allot) : Ok 29 [als a, als b] (Is (.b (sameAl a b))) := by
 refine ok_of lw29 (by simp) ?_
 unfold c29 c29l0 als
 simp -implicitDefEqProofs only [rX,↓rY,ofConst,↓reduceIte,Nat.reduceEqDiff,reduceCtorEq,resP,tupV,wfV,cxN,args0]
 simp only [br, decide_eq_true_eq, decide_eq_false_iff_not, bne_iff_ne, bne_eq_false_iff_eq]
 intro hm1 hm2
 refine ⟨fun h => ?_, fun h => ?_⟩
 ·have : a ≠ b := by rintro rfl; exact h rfl
  simp [sameAl, this]
 have hl : a.length = b.length := by omega
 refine loopP_intro (fun k : Nat => ⟨[(5, .i k), (1, .ro 3 (b.map Allot.enc)), (0, .ro 3 (a.map Allot.enc))], [], 0⟩) (fun k => k ≤ a.length ∧ SInv a b k) (fun k => a.length - k) 0 ⟨by omega, ⟨by simp⟩⟩ ?_ ?_
 ·simp -implicitDefEqProofs only [rX,↓reduceIte,Nat.reduceEqDiff,reduceCtorEq,leE,leH,keepP,wfE,wfB,wfV,yD]
 rintro k ⟨hk, hv⟩
 simp -implicitDefEqProofs only [rX,↓rY,rZ,ofConst,↓reduceIte,Nat.reduceEqDiff,reduceCtorEq,resP,tupV,leE,leH,keepP,wfE,wfB,wfV]
 simp only [br, yB, decide_eq_true_eq, decide_eq_false_iff_not]
 refine fun _ => ⟨fun h => ?_, fun h => ?_⟩
 ·have hka : k < a.length := by omega
  have hkb : k < b.length := by omega
  refine ⟨⟨by omega, h⟩, hka, ⟨by omega, by omega⟩, hkb, ?_⟩
  simp -implicitDefEqProofs only [rX,↓rY,aggC,eqFs,eqC,isKey,eqK,Allot.enc]
  have key : (a[k].gate == b[k].gate && (a[k].origin == b[k].origin && (a[k].n == b[k].n))) = decide (a[k] = b[k]) := by
   rw [Bool.eq_iff_iff]
   simp only [uX, beq_iff_eq, decide_eq_true_eq]
   constructor
   ·rintro ⟨h1, h2, h3⟩
    cases ha : a[k]; cases hb : b[k]
    simp_all
   ·intro h1; rw [h1]; simp
  rw [key]
  simp only [decide_true, true_and]
  by_cases he : a[k] = b[k]
  ·simp only [he, decide_true, yW, yI, false_implies, true_implies, true_and]
   refine ⟨by simp only [lo, hi, maxLen] at *; omega, k + 1, ⟨⟨by omega, ⟨fun j h1 h2 h3 => ?_⟩⟩, by omega⟩, by simp⟩
   by_cases h4 : j = k
   ·subst h4; exact he
   ·exact hv.h j h1 h2 (by omega)
  ·have : a ≠ b := by rintro rfl; exact he rfl
   simp [he, sameAl, this]
 ·have : a = b := by
   apply vK hl
   intro j h1 h2
   exact hv.h j h1 h2 (by omega)
  simp [sameAl, this]
set_option maxRecDepth 20000
theorem lnat_li (l : List Nat) : lnat l = li (l.map vH) := by
 simp only [lnat, li, vS]
 rfl
theorem accP_racc (ps : List Spot) (rs : List Road) (fr : Fr) : accP ps rs fr = racc ps rs fr := by
 unfold accP racc
 by_cases h : chkP ps rs = 0 <;> simp [h]
theorem ok4 (ps : List Spot) (rs : List Road) (fr : Fr) (place n : Int) (hnb : n ≤ 9223372036854775807) : Ok 4 [plant ps rs, fr.enc, .i place, .i n] (Is (.b true)) := by
 refine ok_of lw4 (by simp) ?_
 unfold c4 plant sps rds Fr.enc li
 simp -implicitDefEqProofs only [rX,↓rY,ofConst,cells?,↓reduceIte,Nat.reduceEqDiff,Nat.reduceAdd,reduceCtorEq,freshP,cxN,args0]
 refine call_is (ok19 ps rs) (by simp [plant, sps, rds, lendsOk, lendOk, lends, lend, wkL, wk, wkR]) rfl trivial ?_
 cases hF : fewB ps rs with
 | false =>
  simp -implicitDefEqProofs only [rX,↓rY,ofConst,↓reduceIte,Nat.reduceEqDiff,Nat.reduceAdd]
  refine s10 rfl rfl ?_
  simp -implicitDefEqProofs only [rX,↓reduceIte,resP,tupV,wfV]
 | true =>
 have hF : FewP ps rs := by simpa [fewB] using hF
 simp -implicitDefEqProofs only [rX,↓rY,ofConst,↓reduceIte,Nat.reduceEqDiff,Nat.reduceAdd]
 intro hm1
 by_cases q1 : (100 : Int) < fr.flow.length
 ·have d1 := decide_eq_true q1
  simp -implicitDefEqProofs only [↓rY,d1]
  refine s10 rfl rfl ?_
  simp -implicitDefEqProofs only [rX,↓reduceIte,resP,tupV,wfV]
 have d1 := decide_eq_false q1
 simp -implicitDefEqProofs only [↓rY,d1]
 intro hm2
 by_cases q2 : (100 : Int) < fr.price.length
 ·have d2 := decide_eq_true q2
  simp -implicitDefEqProofs only [↓rY,d2]
  refine s10 rfl rfl ?_
  simp -implicitDefEqProofs only [rX,↓reduceIte,resP,tupV,wfV]
 have d2 := decide_eq_false q2
 simp -implicitDefEqProofs only [↓rY,d2]
 intro hm3
 by_cases q3 : (100 : Int) < fr.cut.length
 ·have d3 := decide_eq_true q3
  simp -implicitDefEqProofs only [↓rY,d3]
  refine s10 rfl rfl ?_
  simp -implicitDefEqProofs only [rX,↓reduceIte,resP,tupV,wfV]
 have d3 := decide_eq_false q3
 simp -implicitDefEqProofs only [↓rY,d3]
 refine call_is (ok20 ps rs fr) (by simp [plant, sps, rds, Fr.enc, li, lendsOk, lendOk, lends, lend, wkL, wk, wkR]) rfl trivial ?_
 rw [accP_racc]
 simp -implicitDefEqProofs only [rX,↓rY,↓reduceIte,Nat.reduceEqDiff,Nat.reduceAdd]
 refine call_is (ok21 ps rs fr) (by simp [plant, sps, rds, Fr.enc, li, lendsOk, lendOk, lends, lend, wkL, wk, wkR]) rfl trivial ?_
 simp -implicitDefEqProofs only [rX,↓rY,ofConst,↓reduceIte,Nat.reduceEqDiff,Nat.reduceAdd,bne_self_eq_false]
 by_cases hacc : racc ps rs fr = 0
 case neg =>
  have d4 : (racc ps rs fr != 0) = true := by simpa using hacc
  simp -implicitDefEqProofs only [↓rY,d4]
  refine s10 rfl rfl ?_
  simp -implicitDefEqProofs only [rX,↓reduceIte,resP,tupV,wfV]
 simp -implicitDefEqProofs only [↓rY,hacc,bne_self_eq_false]
 have h := IsPlan.of hF hacc
 have hfl2 : ps.length ≤ fr.flow.length := by have := h.len; omega
 have hV := net_val h.chk
 have hVF := FVal hV
 have eN : ((nN ps : Nat) : Int) = 2 + 2 * ps.length := by simp [nN]
 have hE : ((0 : Int) ≤ 0 ∧ (0 : Int) < nN ps) ∧ ((0 : Int) ≤ 1 ∧ (1 : Int) < nN ps) ∧ (0 : Int) ≠ 1 := by omega
 have he : F.endsB (nN ps) 0 1 = true := by simpa [F.endsB] using hE
 have hck : F.checkI (nN ps) (netOf ps rs) 0 1 fr.flow = 0 := check_ok he h.acc.fl (by rw [h.acc.hv]; exact h.acc.hs.1)
 obtain ⟨ws, ns, hR⟩ := F.PR.ex hVF hE.1 hE.2.2 _ fr.flow (yO _) (F.flow_Fv hVF hck)
 have hfew := h.few
 refine loopP_intro (fun i : Int => ⟨[(10, .i i), (5, .ptr 1 0 0), (4, .ptr 0 0 0), (3, .i n), (2, .i place)], [plB ps rs, K.frB fr], 0⟩) (fun i => -1 ≤ i ∧ i ≤ ps.length + 1) (fun i => ((ps.length : Int) + 1 - i).toNat) (-1) (by omega) ?_ ?_
 ·simp -implicitDefEqProofs only [rX,↓reduceIte,Nat.reduceEqDiff,reduceCtorEq,leE,leH,leB,leV,leVs,keepP,liveP,wfE,wfB,wfV,wfL,K.frB]
 rintro i ⟨hi1, hi2⟩
 unfold c4l0
 simp -implicitDefEqProofs only [rX,↓rY,rdK,↓reduceIte,Nat.reduceEqDiff,Nat.reduceAdd,K.frB]
 simp only [br, decide_eq_true_eq, decide_eq_false_iff_not]
 refine fun hm4 => ⟨fun h1 => ?_, fun h1 => ?_⟩
 ·refine call_is (ok22g ps rs fr i hfl2) (by simp [plant, sps, rds, Fr.enc, li, lendsOk, lendOk, lends, lend, wkL, wk, wkR]) rfl trivial ?_
  simp -implicitDefEqProofs only [rX,↓reduceIte,Nat.reduceEqDiff]
  refine call_is (ok23 ps rs fr i hfl2) (by simp [plant, sps, rds, Fr.enc, li, lendsOk, lendOk, lends, lend, wkL, wk, wkR]) rfl trivial ?_
  simp -implicitDefEqProofs only [rX,↓rY,ofConst,↓reduceIte,Nat.reduceEqDiff,Nat.reduceAdd,leE,leH,leB,leV,leVs,keepP,liveP,wfE,wfB,wfV,wfL,bne_self_eq_false]
  exact ⟨by simp only [lo, hi]; omega, i + 1, ⟨by omega, by omega⟩, rfl⟩
 refine call_is (ok24 ps rs fr h place n hnb ws ns hR) (by simp [plant, sps, rds, Fr.enc, li, lendsOk, lendOk, lends, lend, wkL, wk, wkR]) rfl trivial ?_
 have e25 := ok25 ps rs fr h place n hnb ws ns hR
 generalize rt ps (netOf ps rs) ws ns place n = q at *
 simp -implicitDefEqProofs only [rX,↓rY,↓reduceIte,Nat.reduceEqDiff,Nat.reduceAdd,lnat]
 refine call_is e25 (by simp [plant, sps, rds, Fr.enc, li, lendsOk, lendOk, lends, lend, wkL, wk, wkR]) rfl trivial ?_
 simp -implicitDefEqProofs only [rX,↓rY,ofConst,cells?,splice,↓reduceIte,Nat.reduceEqDiff,Nat.reduceAdd,freshP,isC,lnat]
 refine s10 rfl rfl ?_
 simp -implicitDefEqProofs only [rX,↓rY,rdK,↓reduceIte,Nat.reduceEqDiff,Nat.reduceAdd]
 refine call_is (ok27 ps rs fr hfew.1 hfl2) (by simp [plant, sps, rds, Fr.enc, li, lendsOk, lendOk, lends, lend, wkL, wk, wkR]) rfl trivial ?_
 simp -implicitDefEqProofs only [rX,↓rY,↓reduceIte,Nat.reduceEqDiff,lnat]
 refine call_is (ok28 ps rs fr hfew.1 hfl2) (by simp [plant, sps, rds, Fr.enc, li, lendsOk, lendOk, lends, lend, wkL, wk, wkR]) rfl trivial ?_
 simp -implicitDefEqProofs only [rX,↓rY,↓reduceIte,Nat.reduceEqDiff,lnat]
 have e26 : ∀ l : List Nat, Ok 26 [lnat l, lnat l] (Is (.b true)) := fun l => by
  have := F.ok26 (l.map vH) (l.map vH)
  rw [← lnat_li] at this
  simpa using this
 refine call_is (e26 (keptN ps fr (ofN ps 1 ps.length))) (by simp [lnat, lendsOk, lendOk, lends, lend, wkL, wk, wkR]) rfl trivial ?_
 simp -implicitDefEqProofs only [rX,↓rY,rdK,↓reduceIte,Nat.reduceEqDiff,Nat.reduceAdd]
 refine call_is (ok30 ps rs fr h) (by simp [plant, sps, rds, Fr.enc, li, lendsOk, lendOk, lends, lend, wkL, wk, wkR]) rfl trivial ?_
 simp -implicitDefEqProofs only [rX,↓rY,↓reduceIte,Nat.reduceEqDiff,als]
 refine call_is (ok31 ps rs fr h) (by simp [plant, sps, rds, Fr.enc, li, lendsOk, lendOk, lends, lend, wkL, wk, wkR]) rfl trivial ?_
 simp -implicitDefEqProofs only [rX,↓rY,↓reduceIte,Nat.reduceEqDiff,als]
 have e29 := ok29 (alN ps rs fr rs.length) (alN ps rs fr rs.length)
 rw [show sameAl (alN ps rs fr rs.length) (alN ps rs fr rs.length) = true by simp [sameAl]] at e29
 refine call_is e29 (by simp [als, lendsOk, lendOk, lends, lend, wkL, wk, wkR]) rfl trivial ?_
 simp -implicitDefEqProofs only [rX,↓rY,rdK,↓reduceIte,Nat.reduceEqDiff,beq_self_eq_true]
 refine call_is (e26 q.1) (by simp [lnat, lendsOk, lendOk, lends, lend, wkL, wk, wkR]) rfl trivial ?_
 simp -implicitDefEqProofs only [rX,↓rY,↓reduceIte,Nat.reduceEqDiff,resP,tupV,wfV]
abbrev tLi : Fx.T := .sl 1 (.int .i64)
abbrev tFr : Fx.T := .st [.int .i64, .int .i64, tLi, tLi, tLi]
theorem wf_l {x : List V} (h : WfT tLi x) : ∃ l, x = [li l] := by
 rw [WfT] at h
 obtain ⟨els, h1, _, he⟩ := h
 obtain ⟨l, rfl⟩ := exM (g := encI) (fun x hx => by
  have := he x hx
  simp only [WfT] at this
  obtain ⟨n, rfl, _⟩ := this
  exact ⟨n, rfl⟩)
 exact ⟨l, by simpa [li] using h1⟩
theorem wf_fr {x : V} (h : WfV tFr x) : ∃ f : Fr, x = f.enc := by
 obtain ⟨cs, h, rfl⟩ := h
 rw [WfTs.eq_2] at h
 obtain ⟨a, _, rfl, h1, h⟩ := h
 rw [WfTs.eq_2] at h
 obtain ⟨b, _, rfl, h2, h⟩ := h
 rw [WfTs.eq_2] at h
 obtain ⟨c, _, rfl, h3, h⟩ := h
 rw [WfTs.eq_2] at h
 obtain ⟨d, _, rfl, h4, h⟩ := h
 rw [WfTs.eq_2] at h
 obtain ⟨e, _, rfl, h5, h⟩ := h
 rw [WfTs.eq_1] at h
 subst h
 simp only [WfT] at h1 h2
 obtain ⟨s, rfl, _⟩ := h1
 obtain ⟨k, rfl, _⟩ := h2
 obtain ⟨l1, rfl⟩ := wf_l h3
 obtain ⟨l2, rfl⟩ := wf_l h4
 obtain ⟨l3, rfl⟩ := wf_l h5
 exact ⟨⟨s, k, l1, l2, l3⟩, rfl⟩
theorem fn4 : ∀ xs, WfA [tPl, tFr, .int .i64, .int .i64] xs → Fn Try.prog 4 xs [] [] (fun r _ => r = .b true) := by
 intro xs h
 obtain ⟨x1, _, rfl, h1, h⟩ := h
 obtain ⟨x2, _, rfl, h2, h⟩ := h
 obtain ⟨x3, _, rfl, h3, h⟩ := h
 obtain ⟨x4, _, rfl, h4, h⟩ := h
 obtain rfl : _ = [] := h
 obtain ⟨ps, rs, rfl⟩ := wf_plant h1
 obtain ⟨fr, rfl⟩ := wf_fr h2
 obtain ⟨p, e3, _⟩ := h3
 obtain ⟨n, e4, hn⟩ := h4
 obtain rfl : x3 = _ := xL e3
 obtain rfl : x4 = _ := xL e4
 exact fn_of' (ok4 ps rs fr p n hn.2)
end Go.Fx.P
