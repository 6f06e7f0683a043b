import Derived.Test.YtjijbjnelflcfaaGreatT57
import Derived.Test.YtjijbjnelflcfaaGreatT12
set_option linter.unusedVariables false
set_option linter.unusedSimpArgs false
set_option linter.unusedSectionVars false
open Bool renaming true_and → yA, false_eq_true → yQ
open List renaming take_succ_cons → yB, drop_succ_cons → yC, take → yD, length_append → yE, getElem_mem → yF, length_cons → yG, take_of_length_le → yI, map_append → yJ, drop → yK, getD_eq_getElem?_getD → yL, getElem?_eq_getElem → yM, take_succ_eq_append_getElem → yO, any_eq_true → yP, append_nil → yS, filter_eq_self → yT, getElem?_eq_none → yU
open Nat renaming le_trans → yH, lt_or_ge → yN
namespace Go.Fx.J
open Go Go.Fx Go.Proofs Go.Fx.R
set_option maxRecDepth 20000
def gtW (who : Int) (w : Wai) : Bool := decide (who < w.id)
def askRM (j : Jns) (m : Mis) (who : Int) (need : List Sp) : Chg :=
 if m.wt.any (eqW who) = true then noC j 6
 else if 1000 ≤ m.wt.length ∨ 1152921504606846976 - ((minusS need (flown m)).length : Int) < j.last then noC j 2
 else { putP ⟨j.last + (minusS need (flown m)).length, j.l⟩ ⟨m.key, (newF j.last (minusS need (flown m))).foldl insF m.fl, insB (gtW who) m.wt ⟨who, need⟩⟩ with new := newF j.last (minusS need (flown m)) }
def askR (j : Jns) (key : S) (who : Int) (need : List Sp) : Chg :=
 if 4096 < key.length ∨ vd need = false ∨ need = [] then noC j 1
 else if j.l.any (eqM key) = false then (if 1000 ≤ j.l.length then noC j 2 else askRM j ⟨key, [], []⟩ who need)
 else askRM j (mAt j (posN (ltM key) j.l)) who need
theorem insB_mem {α : Type} {p : α → Bool} {l : List α} {x y : α} : y ∈ insB p l x ↔ y = x ∨ y ∈ l := by
 induction l with
 | nil => simp [insB]
 | cons a l ih =>
  unfold insB
  split
  ·simp
  ·rw [List.mem_cons, ih, List.mem_cons]
   constructor
   ·rintro (h | h | h)
    ·exact .inr (.inl h)
    ·exact .inl h
    ·exact .inr (.inr h)
   ·rintro (h | h | h)
    ·exact .inr (.inl h)
    ·exact .inl h
    ·exact .inr (.inr h)
theorem insB_len {α : Type} {p : α → Bool} {l : List α} {x : α} : (insB p l x).length = l.length + 1 := by
 induction l with
 | nil => rfl
 | cons a l ih =>
  unfold insB
  split
  ·simp
  ·rw [yG, ih, yG]
theorem ok11 (j : Jns) (key : S) (who : Int) (need : List Sp) (hj : JOk j) (hf : ∀ m ∈ j.l, m.fl.length ≤ 1099511627776) (hkl : key.length ≤ 1000000) (hnl : need.length ≤ 1000000) : Ok 11 [.agg j.enc, sv key, .i who, spans need] (Is (.agg (askR j key who need).enc)) := by
 refine okN_gv ?_
 refine ok_of lw11f (by simp) ?_
 unfold c11f
 have hn := hj.n
 simp -implicitDefEqProofs only [rX,↓rY,ofConst,cells?,↓reduceIte,Nat.reduceEqDiff,Nat.reduceAdd,reduceCtorEq,freshP,cxN,k_nil,yA,args0]
 refine call_is (ok22 need) (by simp [lendsOk, lendOk, lends, lend, wkL, wk, wkR, wkB]) rfl trivial ?_
 cases h0 : decide ((4096 : Int) < (key.length : Int)) with
 | true =>
  have hl : askR j key who need = noC j 1 := if_pos (.inl (by have := of_decide_eq_true h0; omega))
  rw [hl]
  simp -implicitDefEqProofs only [rX,↓rY,ofConst,cells?,splice,↓reduceIte,Nat.reduceEqDiff,Nat.reduceAdd,reduceCtorEq,freshP,buildP,isC,Nat.reduceLeDiff,sb_size,yC,yB,yA,h0]
  refine ret_data ?_
  simp -implicitDefEqProofs only [rX,↓rY,↓reduceIte,Nat.reduceEqDiff,Nat.reduceAdd,resP,tupV,wfV,wfL,yB,yA]
  simp [Gv, tupV, gvV, gvL, wk, wkL, wkR, wfV, wfL, noC, Chg.enc]
 | false =>
  cases h1 : vd need with
  | false =>
   have hl : askR j key who need = noC j 1 := if_pos (.inr (.inl h1))
   rw [hl]
   simp -implicitDefEqProofs only [rX,↓rY,ofConst,cells?,splice,↓reduceIte,Nat.reduceEqDiff,Nat.reduceAdd,reduceCtorEq,buildP,isC,Nat.reduceLeDiff,sb_size,yC,yB,yA,h0]
   refine ret_data ?_
   simp -implicitDefEqProofs only [rX,↓rY,↓reduceIte,Nat.reduceEqDiff,Nat.reduceAdd,resP,tupV,wfV,wfL,yB,yA]
   simp [Gv, tupV, gvV, gvL, wk, wkL, wkR, wfV, wfL, noC, Chg.enc]
  | true =>
   cases h2 : ((need.length : Int) == 0) with
   | true =>
    have hl : askR j key who need = noC j 1 := if_pos (.inr (.inr (List.length_eq_zero_iff.1 (by have := eq_of_beq h2; omega))))
    rw [hl]
    simp -implicitDefEqProofs only [rX,↓rY,ofConst,cells?,splice,↓reduceIte,Nat.reduceEqDiff,Nat.reduceAdd,reduceCtorEq,freshP,buildP,isC,Nat.reduceLeDiff,sb_size,yC,yB,yA,h0,h2]
    intro _
    refine ret_data ?_
    simp -implicitDefEqProofs only [rX,↓rY,↓reduceIte,Nat.reduceEqDiff,Nat.reduceAdd,resP,tupV,wfV,wfL,yB,yA]
    simp [Gv, tupV, gvV, gvL, wk, wkL, wkR, wfV, wfL, noC, Chg.enc]
   | false =>
    have hl : askR j key who need = if j.l.any (eqM key) = false then (if 1000 ≤ j.l.length then noC j 2 else askRM j ⟨key, [], []⟩ who need) else askRM j (mAt j (posN (ltM key) j.l)) who need := by
     refine if_neg ?_
     rintro (h | h | h)
     ·have := of_decide_eq_false h0; omega
     ·rw [h1] at h; cases h
     ·rw [h] at h2; simp at h2
    have hvn : Vd need := vd_iff.1 h1
    simp -implicitDefEqProofs only [rX,↓rY,ofConst,cells?,splice,↓reduceIte,Nat.reduceEqDiff,Nat.reduceAdd,reduceCtorEq,freshP,buildP,isC,Nat.reduceLeDiff,sb_size,yC,yB,yA,h0,h2]
    intro _
    have hvf : ∀ m : Mis, (∀ f ∈ m.fl, 0 ≤ f.sp.1 ∧ f.sp.1 < f.sp.2 ∧ f.sp.2 ≤ 1099511627776) → Vd (flown m) := fun m h => vd_vs (vs_of sep_ofS fun x hx => by
     obtain ⟨f, hf, h1, h2⟩ := in_flown.1 hx
     have := h f hf
     omega)
    refine call_is (ok28 (.i j.last) j.l key (by omega)) (by simp [lendsOk, lendOk, lends, lend, wkL, wk, wkR, wkB]) rfl trivial ?_
    rw [find_pos hj.o]
    cases h4 : j.l.any (eqM key) with
    | false =>
     rw [if_pos h4] at hl
     rw [if_neg (by simp)]
     have hd : decide ((0 : Int) ≤ -1) = false := rfl
     cases h5 : decide ((1000 : Int) ≤ (j.l.length : Int)) with
     | true =>
      rw [if_pos (by have := of_decide_eq_true h5; omega)] at hl
      rw [hl]
      simp -implicitDefEqProofs only [rX,↓rY,ofConst,cells?,splice,↓reduceIte,Nat.reduceEqDiff,Nat.reduceAdd,buildP,isC,Nat.reduceLeDiff,ms_len,ms_t,ms_C,yC,yB,yA,hd,h5]
      intros
      refine ret_data ?_
      simp -implicitDefEqProofs only [rX,↓rY,↓reduceIte,Nat.reduceEqDiff,Nat.reduceAdd,resP,tupV,wfV,wfL,yB,yA]
      simp [Gv, tupV, gvV, gvL, wk, wkL, wkR, wfV, wfL, noC, Chg.enc]
     | false =>
      rw [if_neg (by have := of_decide_eq_false h5; omega)] at hl
      simp -implicitDefEqProofs only [rX,↓rY,ofConst,cells?,splice,↓reduceIte,Nat.reduceEqDiff,Nat.reduceAdd,buildP,isC,Nat.reduceLeDiff,ms_len,ms_t,ms_C,yC,yB,yA,hd,h5]
      intros
      refine loopP_intro (fun i : Nat => ⟨[(14, .i 0), (13, .b false), (12, .nil), (10, .ptr 2 0 0), (8, .ptr 1 0 0), (4, .ptr 0 0 0), (2, .i who), (3, spans need)], [.var j.enc, .var [.i 0, .nil, .nil, .nil, .nil, .i 0], .var [sv key, .nil, .nil]], 3⟩) (fun _ => True) (fun i => 0) 0 trivial ?_ ?_
      ·simp -implicitDefEqProofs only [rX,↓reduceIte,Nat.reduceEqDiff,reduceCtorEq,leE,leH,leB,leV,leVs,keepP,liveP,wfE,wfB,wfV,wfL]
      rintro i -
      unfold c11l0
      have hd0 : decide ((0 : Int) < 0) = false := rfl
      simp -implicitDefEqProofs only [rX,↓rY,cells?,splice,↓reduceIte,Nat.reduceEqDiff,Nat.reduceAdd,reduceCtorEq,freshP,buildP,litsP,isD,Nat.reduceLT,Nat.reduceLeDiff,yC,yB,yA,hd0,↓op_litsf,↓frzP_n,↓frzP_c,↓frzQ_r]
      refine ⟨by omega, ?_⟩
      obtain ⟨m, hm0⟩ : ∃ m : Mis, (⟨key, [], []⟩ : Mis) = m := ⟨_, rfl⟩
      rw [hm0] at hl
      have hmk : m.key = key := by rw [← hm0]
      have hmf : m.fl = [] := by rw [← hm0]
      have hmw : m.wt = [] := by rw [← hm0]
      have hm0 := hm0.symm
      have hvf := hvf m fun f h => by rw [hmf] at h; cases h
      obtain ⟨W, hWe⟩ : ∃ W : List Wai, W = [⟨who, need⟩] := ⟨_, rfl⟩
      have hW : insB (gtW who) m.wt ⟨who, need⟩ = W := by rw [hmw, hWe]; rfl
      have hWl : W.length = m.wt.length + 1 := by rw [hWe, hmw]; rfl
      have hW1 : (1 : Nat) = W.length := by rw [hWe]; rfl
      have hWv : ∀ w ∈ W, Vd w.need := fun w hw => by
       rw [hWe] at hw
       obtain rfl := List.mem_singleton.1 hw
       exact hvn
      have htW : yD W.length (W.map Wai.enc) = W.map Wai.enc := yI (by simp)
      have hany : m.wt.any (eqW who) = false := by rw [hmw]; rfl
      have hwn : m.wt.length ≤ 1000 := by rw [hmw]; simp
      rw [show [[V.v (Value.int IntKind.i64 who), spans need]] = W.map Wai.enc from by rw [hWe]; rfl, show V.sl 4 0 1 = V.sl 4 0 W.length from by rw [← hW1]]
      refine call_is (ok33 (sv key) (V.nil) [] (fun f hf => by cases hf) (by simp)) (by simp [lendsOk, lendOk, lends, lend, wkL, wk, wkR, wkB, Mis.enc]) rfl trivial ?_
      rw [show ofS (([] : List Fet).map (·.sp)) = flown m from by rw [hm0]; rfl]
      simp -implicitDefEqProofs only [rX,↓reduceIte,Nat.reduceEqDiff]
      refine call_is (ok48 need (flown m) hvn) (by simp [lendsOk, lendOk, lends, lend, wkL, wk, wkR, wkB]) rfl trivial ?_
      have hVe : Vd (minusS need (flown m)) := vd_vs (Vs.minus (vs_vd.2 hvn))
      have hel := hVe.len
      unfold askRM at hl
      rw [if_neg (by rw [hany]; simp)] at hl
      simp only [hW] at hl
      generalize minusS need (flown m) = e at *
      cases h6 : decide ((1000 : Int) < (W.length : Int)) with
      | true =>
       rw [if_pos (.inl (by have := of_decide_eq_true h6; omega))] at hl
       rw [hl]
       simp -implicitDefEqProofs only [rX,↓rY,ofConst,cells?,splice,↓reduceIte,Nat.reduceEqDiff,Nat.reduceAdd,buildP,isC,Nat.reduceLeDiff,yC,yB,yA,h6]
       intro _
       refine ret_data ?_
       simp -implicitDefEqProofs only [rX,↓rY,↓reduceIte,Nat.reduceEqDiff,Nat.reduceAdd,resP,tupV,wfV,wfL,yB,yA]
       simp [Gv, tupV, gvV, gvL, wk, wkL, wkR, wfV, wfL, noC, Chg.enc]
      | false =>
       have h6' := of_decide_eq_false h6
       cases h7 : decide ((1152921504606846976 : Int) - (e.length : Int) < j.last) with
       | true =>
        rw [if_pos (.inr (of_decide_eq_true h7))] at hl
        rw [hl]
        simp -implicitDefEqProofs only [rX,↓rY,ofConst,cells?,splice,↓reduceIte,Nat.reduceEqDiff,Nat.reduceAdd,buildP,isC,Nat.reduceLeDiff,yC,yB,yA,h6,h7]
        intros
        refine ⟨by simp only [lo, Fx.hi]; omega, ?_⟩
        refine ret_data ?_
        simp -implicitDefEqProofs only [rX,↓rY,↓reduceIte,Nat.reduceEqDiff,Nat.reduceAdd,resP,tupV,wfV,wfL,yB,yA]
        simp [Gv, tupV, gvV, gvL, wk, wkL, wkR, wfV, wfL, noC, Chg.enc]
       | false =>
        have h7' := of_decide_eq_false h7
        rw [if_neg fun h => h.elim (fun h => by omega) h7'] at hl
        rw [hl]
        simp -implicitDefEqProofs only [rX,↓rY,ofConst,cells?,splice,↓reduceIte,Nat.reduceEqDiff,Nat.reduceAdd,reduceCtorEq,buildP,isC,Nat.reduceLeDiff,yC,yB,yA,h6,h7,↓frzP_n,↓frzP_c,↓frzQ_s,↓frz1_a,↓aw_frz,get_frzE,frzV,frzL,frzB,Nat.reduceEqDiff,htW]
        intros
        refine ⟨by simp only [lo, Fx.hi]; omega, ?_⟩
        have hjl := hj.lo
        refine call_is (ok49 ⟨m.key, m.fl, W⟩ e j.last (by omega) hel (by show m.fl.length ≤ _; rw [hmf]; simp)) (by simp [lendsOk, lendOk, lends, lend, wkL, wk, wkR, wkB, Mis.enc, hmk, hmf]) rfl trivial ?_
        have hFL : ((newF j.last e).foldl insF m.fl).length = m.fl.length + e.length := by rw [insFs_perm.length_eq, yE, newF_len]
        simp -implicitDefEqProofs only [rX,↓rY,cells?,splice,↓reduceIte,Nat.reduceEqDiff,Nat.reduceAdd,reduceCtorEq,buildP,Nat.reduceLeDiff,ms_len,ms_t,ms_C,yC,yB,yA,get_frzE,frzV,Nat.reduceEqDiff]
        have hmfl : m.fl.length ≤ 1099511627776 := by rw [hmf]; simp
        generalize (newF j.last e).foldl insF m.fl = fl' at *
        generalize newF j.last e = nf at *
        refine call_is (ok50 ⟨j.last + e.length, j.l⟩ ⟨m.key, fl', W⟩ (by show j.l.length ≤ _; omega) hWv (by show W.length ≤ _; omega) (by show fl'.length ≤ _; omega)) (by simp [lendsOk, lendOk, lends, lend, wkL, wk, wkR, wkB, Mis.enc, Jns.enc]) rfl trivial ?_
        generalize putP ⟨j.last + e.length, j.l⟩ ⟨m.key, fl', W⟩ = C
        obtain ⟨J, a, b, c, x⟩ := C
        simp -implicitDefEqProofs only [rX,↓rY,ofConst,cells?,splice,↓reduceIte,Nat.reduceEqDiff,Nat.reduceAdd,freshP,isC,Nat.reduceLeDiff,yC,yB,yA,Chg.enc,get_frzE,frzV,Nat.reduceEqDiff]
        refine ret_data ?_
        simp -implicitDefEqProofs only [rX,↓rY,↓reduceIte,Nat.reduceEqDiff,Nat.reduceAdd,resP,tupV,wfV,wfL,yB,yA,get_frzE,frzV,Nat.reduceEqDiff]
        simp [Gv, tupV, gvV, gvL, wk, wkL, wkR, wfV, wfL, noC, Chg.enc]
    | true =>
     obtain ⟨hk, hkey⟩ := posN_any hj.o h4
     have hm := hj.m _ (yF hk)
     have hfl := hf _ (yF hk)
     rw [if_neg (by rw [h4]; simp), mAt_eq hk] at hl
     rw [if_pos rfl]
     generalize posN (ltM key) j.l = k at *
     obtain ⟨m, hme⟩ : ∃ m, j.l[k] = m := ⟨_, rfl⟩
     rw [hme] at hl hm hfl hkey
     have hd : decide ((0 : Int) ≤ (k : Int)) = true := decide_eq_true (by omega)
     simp -implicitDefEqProofs only [rX,↓rY,ofConst,cells?,splice,↓reduceIte,Nat.reduceEqDiff,Nat.reduceAdd,buildP,isC,Nat.reduceLeDiff,ms_len,ms_t,ms_C,yC,yB,yA,hd]
     refine ⟨⟨by omega, by omega⟩, hk, ?_⟩
     rw [hme]
     have hwn := hm.n
     have hvf := hvf m fun f h => (hm.f f h).1
     refine loopP_ghost (.virt 1 2 (by decide) (.nilE 12 3 rfl (.refl _))) (fun i : Nat => ⟨[(14, .i i), (13, .b ((m.wt.take i).any (gtW who))), (12, .sl 3 0 (insS (gtW who) (m.wt.take i) ⟨who, need⟩).length), (10, .ptr 2 0 0), (8, .ptr 1 0 0), (4, .ptr 0 0 0), (2, .i who), (3, spans need)], [.var j.enc, .var [.i 0, .nil, .nil, .nil, .nil, .i 0], .var m.enc, .arr 2 ((insS (gtW who) (m.wt.take i) ⟨who, need⟩).map Wai.enc)], 3⟩) (fun i => i ≤ m.wt.length ∧ (m.wt.take i).any (eqW who) = false) (fun i => m.wt.length - i) 0 ⟨by omega, rfl⟩ ?_ ?_
     ·simp -implicitDefEqProofs only [rX,↓reduceIte,Nat.reduceEqDiff,reduceCtorEq,leE,leH,leB,leV,leVs,keepP,liveP,wfE,wfB,wfV,wfL,ms_wf,ms_le,List.replicate_succ,insS,List.any_nil,Int.natCast_zero]
     rintro i ⟨hi0, hno⟩
     unfold c11l0
     have hSl := insS_len (p := gtW who) (l := m.wt.take i) (x := (⟨who, need⟩ : Wai))
     rw [List.length_take_of_le hi0] at hSl
     rcases yN i m.wt.length with hi' | hi'
     ·have hd : decide ((i : Int) < (m.wt.length : Int)) = true := decide_eq_true (by omega)
      have hii : (0 : Int) ≤ i ∧ (i : Int) < m.wt.length := ⟨by omega, by omega⟩
      have hstep := insS_step (p := gtW who) (l := m.wt.take i) (x := (⟨who, need⟩ : Wai)) (y := m.wt[i])
      rw [← yO hi'] at hstep
      have hany : (m.wt.take (i + 1)).any (gtW who) = ((m.wt.take i).any (gtW who) || gtW who m.wt[i]) := by
       rw [yO hi', List.any_append]; simp
      have hno2 : (m.wt.take (i + 1)).any (eqW who) = eqW who m.wt[i] := by
       rw [yO hi', List.any_append, hno]; simp
      generalize insS (gtW who) (m.wt.take i) ⟨who, need⟩ = s at *
      have hts : yD s.length (s.map Wai.enc) = s.map Wai.enc := yI (by simp)
      cases hE : m.wt[i].id == who with
      | true =>
       have hx : m.wt.any (eqW who) = true := yP.2 ⟨_, yF hi', by unfold eqW; exact decide_eq_true (eq_of_beq hE)⟩
       unfold askRM at hl
       rw [if_pos hx] at hl
       rw [hl]
       simp -implicitDefEqProofs only [rX,↓rY,ofConst,cells?,splice,↓reduceIte,Nat.reduceEqDiff,Nat.reduceAdd,buildP,isC,Nat.reduceLeDiff,wt_0,ms_2,yC,yB,yA,hd,hE]
       refine fun _ => ⟨hii, hi', ?_⟩
       refine ret_data ?_
       simp -implicitDefEqProofs only [rX,↓rY,↓reduceIte,Nat.reduceEqDiff,Nat.reduceAdd,resP,tupV,wfV,wfL,yB,yA]
       simp [Gv, tupV, gvV, gvL, wk, wkL, wkR, wfV, wfL, noC, Chg.enc]
      | false =>
       rw [show eqW who m.wt[i] = false from by unfold eqW; exact decide_eq_false (fun e => by rw [e] at hE; simp at hE)] at hno2
       have hG : gtW who m.wt[i] = decide (who < m.wt[i].id) := rfl
       rw [hG] at hstep hany
       cases hA : (m.wt.take i).any (gtW who) with
       | true =>
        simp only [hA, Bool.true_or, if_true] at hstep hany hSl
        simp -implicitDefEqProofs only [rX,↓rY,ofConst,cells?,↓reduceIte,Nat.reduceEqDiff,Nat.reduceAdd,reduceCtorEq,freshP,litsP,leE,leH,leB,leV,leVs,keepP,liveP,wfE,wfB,wfV,wfL,killE,killB,kill,kills,St.kill,Nat.reduceLT,wt_len,wt_t,wt_0,wt_D,wt_k,ms_2,ms_k,ms_wf,ms_le,yB,yA,hd,hE,↓op_litsf,↓frzP_n,↓frzP_c,↓frzQ_a]
        exact fun _ => ⟨hii, hi', hii, hi', by omega, by simp only [lo, Fx.hi]; omega, i + 1, ⟨⟨hi', hno2⟩, by omega⟩, ⟨by omega, hany.symm, by rw [hstep, yE]; rfl⟩, by rw [hstep, hts, yJ]; rfl⟩
       | false =>
        cases hB : decide (who < m.wt[i].id) with
        | true =>
         simp only [hA, hB, Bool.false_or, if_true, yQ, if_false] at hstep hany hSl
         simp -implicitDefEqProofs only [rX,↓rY,ofConst,cells?,splice,↓reduceIte,Nat.reduceEqDiff,Nat.reduceAdd,reduceCtorEq,freshP,buildP,litsP,leE,leH,leB,leV,leVs,keepP,liveP,wfE,wfB,wfV,wfL,killE,killB,kill,kills,St.kill,isD,Nat.reduceLT,Nat.reduceLeDiff,wt_len,wt_t,wt_0,wt_D,wt_k,ms_2,ms_k,ms_wf,ms_le,yC,yB,yA,hd,hE,hB,↓op_litsf,↓frzP_n,↓frzP_c,↓frzQ_r,↓frzQ_a]
         refine fun _ => ⟨hii, hi', hii, hi', by omega, hii, hi', ⟨by rw [hts]; simp, by omega⟩, by simp only [lo, Fx.hi]; omega, i + 1, ⟨⟨hi', hno2⟩, by omega⟩, ⟨by omega, hany.symm, by rw [hstep, yE]; rfl⟩, ?_⟩
         rw [hstep, hts, yI (by simp), yJ]; simp; rfl
        | false =>
         simp only [hA, hB, Bool.false_or, if_true, yQ, if_false] at hstep hany hSl
         simp -implicitDefEqProofs only [rX,↓rY,ofConst,cells?,↓reduceIte,Nat.reduceEqDiff,Nat.reduceAdd,reduceCtorEq,freshP,litsP,leE,leH,leB,leV,leVs,keepP,liveP,wfE,wfB,wfV,wfL,killE,killB,kill,kills,St.kill,Nat.reduceLT,wt_len,wt_t,wt_0,wt_D,wt_k,ms_2,ms_k,ms_wf,ms_le,yB,yA,hd,hE,hB,↓op_litsf,↓frzP_n,↓frzP_c,↓frzQ_a]
         exact fun _ => ⟨hii, hi', hii, hi', hii, hi', by omega, by simp only [lo, Fx.hi]; omega, i + 1, ⟨⟨hi', hno2⟩, by omega⟩, ⟨by omega, hany.symm, by rw [hstep, yE]; rfl⟩, by rw [hstep, hts, yJ]; rfl⟩
     ·have hd : decide ((i : Int) < (m.wt.length : Int)) = false := decide_eq_false (by omega)
      have hie : i = m.wt.length := by omega
      subst hie
      have hend := insS_end (p := gtW who) (l := m.wt) (x := (⟨who, need⟩ : Wai))
      rw [List.take_length] at hno hSl ⊢
      have hWv : ∀ w ∈ insB (gtW who) m.wt ⟨who, need⟩, Vd w.need := fun w hw => by
       rcases insB_mem.1 hw with rfl | hw
       ·exact hvn
       ·exact vd_vs (hm.w w hw).1
      obtain ⟨W, hW⟩ : ∃ W, insB (gtW who) m.wt ⟨who, need⟩ = W := ⟨_, rfl⟩
      rw [hW] at hend hWv
      have hWl : W.length = m.wt.length + 1 := by rw [← hW, insB_len]
      have htW : yD W.length (W.map Wai.enc) = W.map Wai.enc := yI (by simp)
      have hany := hno
      generalize insS (gtW who) m.wt ⟨who, need⟩ = s at *
      have hts : yD s.length (s.map Wai.enc) = s.map Wai.enc := yI (by simp)
      cases hA : m.wt.any (gtW who) with
      | true =>
       simp only [hA, if_true, yS] at hend
       have hend := hend.symm
       subst hend
       simp -implicitDefEqProofs only [rX,↓rY,↓reduceIte,Nat.reduceEqDiff,Nat.reduceAdd,ms_len,ms_t,ms_2,yA,hd]
       intro _
       refine call_is (ok33 (sv m.key) (wais m.wt) m.fl (fun f hf => by have := (hm.f f hf).1; unfold Bs; omega) (by omega)) (by simp [lendsOk, lendOk, lends, lend, wkL, wk, wkR, wkB, Mis.enc]) rfl trivial ?_
       rw [show ofS (m.fl.map (·.sp)) = flown m from rfl]
       simp -implicitDefEqProofs only [rX,↓reduceIte,Nat.reduceEqDiff]
       refine call_is (ok48 need (flown m) hvn) (by simp [lendsOk, lendOk, lends, lend, wkL, wk, wkR, wkB]) rfl trivial ?_
       have hVe : Vd (minusS need (flown m)) := vd_vs (Vs.minus (vs_vd.2 hvn))
       have hel := hVe.len
       unfold askRM at hl
       rw [if_neg (by rw [hany]; simp)] at hl
       simp only [hW] at hl
       generalize minusS need (flown m) = e at *
       cases h6 : decide ((1000 : Int) < (W.length : Int)) with
       | true =>
        rw [if_pos (.inl (by have := of_decide_eq_true h6; omega))] at hl
        rw [hl]
        simp -implicitDefEqProofs only [rX,↓rY,ofConst,cells?,splice,↓reduceIte,Nat.reduceEqDiff,Nat.reduceAdd,buildP,isC,Nat.reduceLeDiff,yC,yB,yA,h6]
        intro _
        refine ret_data ?_
        simp -implicitDefEqProofs only [rX,↓rY,↓reduceIte,Nat.reduceEqDiff,Nat.reduceAdd,resP,tupV,wfV,wfL,yB,yA]
        simp [Gv, tupV, gvV, gvL, wk, wkL, wkR, wfV, wfL, noC, Chg.enc]
       | false =>
        have h6' := of_decide_eq_false h6
        cases h7 : decide ((1152921504606846976 : Int) - (e.length : Int) < j.last) with
        | true =>
         rw [if_pos (.inr (of_decide_eq_true h7))] at hl
         rw [hl]
         simp -implicitDefEqProofs only [rX,↓rY,ofConst,cells?,splice,↓reduceIte,Nat.reduceEqDiff,Nat.reduceAdd,buildP,isC,Nat.reduceLeDiff,yC,yB,yA,h6,h7]
         intros
         refine ⟨by simp only [lo, Fx.hi]; omega, ?_⟩
         refine ret_data ?_
         simp -implicitDefEqProofs only [rX,↓rY,↓reduceIte,Nat.reduceEqDiff,Nat.reduceAdd,resP,tupV,wfV,wfL,yB,yA]
         simp [Gv, tupV, gvV, gvL, wk, wkL, wkR, wfV, wfL, noC, Chg.enc]
        | false =>
         have h7' := of_decide_eq_false h7
         rw [if_neg fun h => h.elim (fun h => by omega) h7'] at hl
         rw [hl]
         simp -implicitDefEqProofs only [rX,↓rY,ofConst,cells?,splice,↓reduceIte,Nat.reduceEqDiff,Nat.reduceAdd,reduceCtorEq,buildP,isC,Nat.reduceLeDiff,ms_len,yC,yB,yA,h6,h7,↓frzP_n,↓frzP_c,↓frzQ_s,↓frz1_a,↓aw_frz,get_frzE,frzV,frzL,frzB,Nat.reduceEqDiff,ms_frz,htW]
         intros
         refine ⟨by simp only [lo, Fx.hi]; omega, ?_⟩
         have hjl := hj.lo
         rw [show yD 2 m.enc ++ [V.ro 2 (List.map Wai.enc W)] ++ yK 3 m.enc = Mis.enc ⟨m.key, m.fl, W⟩ from rfl, show yD 3 (Mis.enc ⟨m.key, m.fl, W⟩) = Mis.enc ⟨m.key, m.fl, W⟩ from rfl]
         refine ⟨by simp [Mis.enc], ?_⟩
         refine call_is (ok49 ⟨m.key, m.fl, W⟩ e j.last (by omega) hel (by show m.fl.length ≤ _; omega)) (by simp [lendsOk, lendOk, lends, lend, wkL, wk, wkR, wkB, Mis.enc]) rfl trivial ?_
         have hFL : ((newF j.last e).foldl insF m.fl).length = m.fl.length + e.length := by rw [insFs_perm.length_eq, yE, newF_len]
         simp -implicitDefEqProofs only [rX,↓rY,cells?,splice,↓reduceIte,Nat.reduceEqDiff,Nat.reduceAdd,reduceCtorEq,buildP,Nat.reduceLeDiff,ms_len,ms_C,yC,yB,yA,get_frzE,frzV,Nat.reduceEqDiff]
         rw [show ∀ x : Mis, x.enc ++ yK 3 (Mis.enc ⟨m.key, m.fl, W⟩) = x.enc from fun x => yS _]
         have hmfl : m.fl.length ≤ 1099511627776 := hfl
         generalize (newF j.last e).foldl insF m.fl = fl' at *
         generalize newF j.last e = nf at *
         rw [show yD 3 (Mis.enc ⟨m.key, fl', W⟩) = Mis.enc ⟨m.key, fl', W⟩ from rfl]
         refine ⟨by omega, ?_⟩
         refine call_is (ok50 ⟨j.last + e.length, j.l⟩ ⟨m.key, fl', W⟩ (by show j.l.length ≤ _; omega) hWv (by show W.length ≤ _; omega) (by show fl'.length ≤ _; omega)) (by simp [lendsOk, lendOk, lends, lend, wkL, wk, wkR, wkB, Mis.enc, Jns.enc]) rfl trivial ?_
         generalize putP ⟨j.last + e.length, j.l⟩ ⟨m.key, fl', W⟩ = C
         obtain ⟨J, a, b, c, x⟩ := C
         simp -implicitDefEqProofs only [rX,↓rY,ofConst,cells?,splice,↓reduceIte,Nat.reduceEqDiff,Nat.reduceAdd,freshP,isC,Nat.reduceLeDiff,yC,yB,yA,Chg.enc,get_frzE,frzV,Nat.reduceEqDiff]
         refine ret_data ?_
         simp -implicitDefEqProofs only [rX,↓rY,↓reduceIte,Nat.reduceEqDiff,Nat.reduceAdd,resP,tupV,wfV,wfL,yB,yA,get_frzE,frzV,Nat.reduceEqDiff]
         simp [Gv, tupV, gvV, gvL, wk, wkL, wkR, wfV, wfL, noC, Chg.enc]
      | false =>
       simp only [hA, yQ, if_false] at hend
       have hsl : s.length + 1 = W.length := by rw [← hend]; simp
       have hse : s.map Wai.enc ++ [[.i who, spans need]] = W.map Wai.enc := by rw [← hend, yJ]; rfl
       simp -implicitDefEqProofs only [rX,↓rY,cells?,splice,↓reduceIte,Nat.reduceEqDiff,Nat.reduceAdd,reduceCtorEq,freshP,buildP,litsP,killE,killB,kill,kills,St.kill,isD,Nat.reduceLT,Nat.reduceLeDiff,ms_len,ms_t,ms_2,ms_k,yC,yB,yA,hd,↓op_litsf,↓frzP_n,↓frzP_c,↓frzQ_r]
       intro _
       refine ⟨by omega, ?_⟩
       rw [hts, show s.map Wai.enc ++ [[V.v (Value.int IntKind.i64 who), spans need]] = W.map Wai.enc from hse, hsl]
       refine call_is (ok33 (sv m.key) (wais m.wt) m.fl (fun f hf => by have := (hm.f f hf).1; unfold Bs; omega) (by omega)) (by simp [lendsOk, lendOk, lends, lend, wkL, wk, wkR, wkB, Mis.enc]) rfl trivial ?_
       rw [show ofS (m.fl.map (·.sp)) = flown m from rfl]
       simp -implicitDefEqProofs only [rX,↓reduceIte,Nat.reduceEqDiff]
       refine call_is (ok48 need (flown m) hvn) (by simp [lendsOk, lendOk, lends, lend, wkL, wk, wkR, wkB]) rfl trivial ?_
       have hVe : Vd (minusS need (flown m)) := vd_vs (Vs.minus (vs_vd.2 hvn))
       have hel := hVe.len
       unfold askRM at hl
       rw [if_neg (by rw [hany]; simp)] at hl
       simp only [hW] at hl
       generalize minusS need (flown m) = e at *
       cases h6 : decide ((1000 : Int) < (W.length : Int)) with
       | true =>
        rw [if_pos (.inl (by have := of_decide_eq_true h6; omega))] at hl
        rw [hl]
        simp -implicitDefEqProofs only [rX,↓rY,ofConst,cells?,splice,↓reduceIte,Nat.reduceEqDiff,Nat.reduceAdd,buildP,isC,Nat.reduceLeDiff,yC,yB,yA,h6]
        intro _
        refine ret_data ?_
        simp -implicitDefEqProofs only [rX,↓rY,↓reduceIte,Nat.reduceEqDiff,Nat.reduceAdd,resP,tupV,wfV,wfL,yB,yA]
        simp [Gv, tupV, gvV, gvL, wk, wkL, wkR, wfV, wfL, noC, Chg.enc]
       | false =>
        have h6' := of_decide_eq_false h6
        cases h7 : decide ((1152921504606846976 : Int) - (e.length : Int) < j.last) with
        | true =>
         rw [if_pos (.inr (of_decide_eq_true h7))] at hl
         rw [hl]
         simp -implicitDefEqProofs only [rX,↓rY,ofConst,cells?,splice,↓reduceIte,Nat.reduceEqDiff,Nat.reduceAdd,buildP,isC,Nat.reduceLeDiff,yC,yB,yA,h6,h7]
         intros
         refine ⟨by simp only [lo, Fx.hi]; omega, ?_⟩
         refine ret_data ?_
         simp -implicitDefEqProofs only [rX,↓rY,↓reduceIte,Nat.reduceEqDiff,Nat.reduceAdd,resP,tupV,wfV,wfL,yB,yA]
         simp [Gv, tupV, gvV, gvL, wk, wkL, wkR, wfV, wfL, noC, Chg.enc]
        | false =>
         have h7' := of_decide_eq_false h7
         rw [if_neg fun h => h.elim (fun h => by omega) h7'] at hl
         rw [hl]
         simp -implicitDefEqProofs only [rX,↓rY,ofConst,cells?,splice,↓reduceIte,Nat.reduceEqDiff,Nat.reduceAdd,reduceCtorEq,buildP,isC,Nat.reduceLeDiff,ms_len,yC,yB,yA,h6,h7,↓frzP_n,↓frzP_c,↓frzQ_s,↓frz1_a,↓aw_frz,get_frzE,frzV,frzL,frzB,Nat.reduceEqDiff,ms_frz,htW]
         intros
         refine ⟨by simp only [lo, Fx.hi]; omega, ?_⟩
         have hjl := hj.lo
         rw [show yD 2 m.enc ++ [V.ro 2 (List.map Wai.enc W)] ++ yK 3 m.enc = Mis.enc ⟨m.key, m.fl, W⟩ from rfl, show yD 3 (Mis.enc ⟨m.key, m.fl, W⟩) = Mis.enc ⟨m.key, m.fl, W⟩ from rfl]
         refine ⟨by simp [Mis.enc], ?_⟩
         refine call_is (ok49 ⟨m.key, m.fl, W⟩ e j.last (by omega) hel (by show m.fl.length ≤ _; omega)) (by simp [lendsOk, lendOk, lends, lend, wkL, wk, wkR, wkB, Mis.enc]) rfl trivial ?_
         have hFL : ((newF j.last e).foldl insF m.fl).length = m.fl.length + e.length := by rw [insFs_perm.length_eq, yE, newF_len]
         simp -implicitDefEqProofs only [rX,↓rY,cells?,splice,↓reduceIte,Nat.reduceEqDiff,Nat.reduceAdd,reduceCtorEq,buildP,Nat.reduceLeDiff,ms_len,ms_C,yC,yB,yA,get_frzE,frzV,Nat.reduceEqDiff]
         rw [show ∀ x : Mis, x.enc ++ yK 3 (Mis.enc ⟨m.key, m.fl, W⟩) = x.enc from fun x => yS _]
         have hmfl : m.fl.length ≤ 1099511627776 := hfl
         generalize (newF j.last e).foldl insF m.fl = fl' at *
         generalize newF j.last e = nf at *
         rw [show yD 3 (Mis.enc ⟨m.key, fl', W⟩) = Mis.enc ⟨m.key, fl', W⟩ from rfl]
         refine ⟨by omega, ?_⟩
         refine call_is (ok50 ⟨j.last + e.length, j.l⟩ ⟨m.key, fl', W⟩ (by show j.l.length ≤ _; omega) hWv (by show W.length ≤ _; omega) (by show fl'.length ≤ _; omega)) (by simp [lendsOk, lendOk, lends, lend, wkL, wk, wkR, wkB, Mis.enc, Jns.enc]) rfl trivial ?_
         generalize putP ⟨j.last + e.length, j.l⟩ ⟨m.key, fl', W⟩ = C
         obtain ⟨J, a, b, c, x⟩ := C
         simp -implicitDefEqProofs only [rX,↓rY,ofConst,cells?,splice,↓reduceIte,Nat.reduceEqDiff,Nat.reduceAdd,freshP,isC,Nat.reduceLeDiff,yC,yB,yA,Chg.enc,get_frzE,frzV,Nat.reduceEqDiff]
         refine ret_data ?_
         simp -implicitDefEqProofs only [rX,↓rY,↓reduceIte,Nat.reduceEqDiff,Nat.reduceAdd,resP,tupV,wfV,wfL,yB,yA,get_frzE,frzV,Nat.reduceEqDiff]
         simp [Gv, tupV, gvV, gvL, wk, wkL, wkR, wfV, wfL, noC, Chg.enc]
end Go.Fx.J
namespace Go.Fx.J
open Go Go.Fx Go.Proofs Go.Fx.R
set_option maxRecDepth 20000
theorem eqM_pair {l : List Mis} {key : S} (ho : l.Pairwise fun a b => a.key < b.key) : l.Pairwise fun a b => eqM key a = true → eqM key b = false :=
 ho.imp fun {a b} h ha => decide_eq_false fun e => by
  have e1 : a.key = key := of_decide_eq_true ha
  rw [e1, e] at h
  exact s_irr _ h
theorem eqM_lt {key : S} {m : Mis} (h : eqM key m = true) : ltM key m = false := decide_eq_false (by
 have e : m.key = key := of_decide_eq_true h
 rw [e]; exact s_irr _)
theorem putR_in {l : List Mis} {key : S} {m : Mis} (ho : l.Pairwise fun a b => a.key < b.key) (h : l.any (eqM key) = true) (d : Bool) :
  putR (geM key) (eqM key) m d l = if d = true then lessL l (posN (ltM key) l) else l.set (posN (ltM key) l) m := by
 obtain ⟨hk, hkey⟩ := posN_any ho h
 obtain ⟨h1, h2⟩ := putR_at (ge := geM key) (eq := eqM key) (m := m) hk (split_M ho) (fun _ _ => rfl) (eqM_pair ho) (fun _ _ => eqM_lt) (decide_eq_true hkey)
 cases d with
 | true => rw [if_pos rfl]; exact h1
 | false => rw [if_neg (by simp)]; exact h2
theorem putR_new {l : List Mis} {key : S} {m : Mis} (ho : l.Pairwise fun a b => a.key < b.key) (h : l.any (eqM key) = false) :
  putR (geM key) (eqM key) m false l = insT l (posN (ltM key) l) m := by
 have h1 := (putR_no (ge := geM key) (eq := eqM key) (m := m) (l := l) fun y hy => by simpa using List.any_eq_false.1 h y hy).2
 rw [h1]
 exact insB_pos (split_M ho) fun _ _ => rfl
theorem put_clean {last : Int} {L : List Mis} {key : S} {fl : List Fet} {wt : List Wai} (ho : L.Pairwise fun a b => a.key < b.key) (h : L.any (eqM key) = true) :
  putP ⟨last, L⟩ ⟨key, fl, wt⟩ = ⟨⟨last, cleanL L (posN (ltM key) L) key fl wt⟩, [], [], cleanO key fl wt, 0⟩ := by
 unfold putP cleanL cleanO
 simp only
 rw [putR_in ho h]
 by_cases hw : wt = []
 ·simp [hw]
 ·simp [hw]
theorem eqW_pair {l : List Wai} {who : Int} (ho : l.Pairwise fun a b => a.id < b.id) : l.Pairwise fun a b => eqW who a = true → eqW who b = false :=
 ho.imp fun {a b} h ha => decide_eq_false fun e => by
  have e1 : a.id = who := of_decide_eq_true ha
  omega
theorem posW_eq {l : List Wai} {k : Int} (ho : l.Pairwise fun a b => a.id < b.id) (h : l.any (eqW k) = true) (hp : posN (ltW k) l < l.length) : eqW k l[posN (ltW k) l] = true := by
 obtain ⟨m, hm, he⟩ := yP.1 h
 obtain ⟨i, hi, rfl⟩ := List.getElem_of_mem hm
 obtain ⟨s1, s2⟩ := Go.Fx.R.split_at (split_W (k := k) ho)
 have hx : l[i].id = k := of_decide_eq_true he
 have h1 : ¬ i < posN (ltW k) l := fun hlt => by
  have := s1 i hi hlt
  unfold ltW at this
  simp at this
  omega
 have h2 : ¬ posN (ltW k) l < i := fun hlt => by
  have := List.pairwise_iff_getElem.1 ho _ i hp hi hlt
  have h3 : ¬ l[posN (ltW k) l].id < k := of_decide_eq_false (s2 _ hp (Nat.le_refl _))
  omega
 have h3 : i = posN (ltW k) l := by omega
 subst h3
 exact he
theorem kept_less {l : List Wai} {who : Int} (ho : l.Pairwise fun a b => a.id < b.id) (h : l.any (eqW who) = true) : keptD (eqW who) l = lessL l (posN (ltW who) l) := by
 have hp := posW_any ho h
 have h1 := (putR_at (ge := fun w => !ltW who w) (eq := eqW who) (m := ⟨0, []⟩) hp (split_W ho) (fun _ _ => rfl) (eqW_pair ho) (fun y _ hy => decide_eq_false (by have : y.id = who := of_decide_eq_true hy; omega)) (posW_eq ho h hp)).1
 rw [putR_filter] at h1
 exact h1
theorem kept_none {α : Type} {p : α → Bool} {l : List α} (h : l.any p = false) : keptD p l = l := by
 unfold keptD
 rw [yT]
 intro x hx
 simpa using List.any_eq_false.1 h x hx
theorem leave_eq {j : Jns} (hj : JOk j) (key : S) (who : Int) : leaveR j key who = ⟨(leaveP j key who).1.1, [], [], (leaveP j key who).1.2, (leaveP j key who).2⟩ := by
 unfold leaveR leaveP
 cases h1 : j.l.any (eqM key) with
 | false => simp [noC]
 | true =>
  obtain ⟨hk, hkey⟩ := posN_any hj.o h1
  simp only [Bool.true_eq_false, if_false]
  rw [mAt_eq hk]
  have hm := hj.m _ (yF hk)
  cases h2 : j.l[posN (ltM key) j.l].wt.any (eqW who) with
  | false =>
   rw [kept_none h2]
   simp [noC]
  | true =>
   have hp := posW_any hm.wo h2
   rw [kept_less hm.wo h2, if_neg (by unfold lessL; simp; omega), if_neg (by simp), hkey]
   exact put_clean hj.o h1
theorem kept_all {m : Mis} {fl : List Fet} (hc : ∀ f ∈ fl, ∃ x, inS (needed m) x ∧ f.sp.1 ≤ x ∧ x < f.sp.2) : keptD (goF (needed m)) fl = fl := by
 unfold keptD
 rw [yT]
 intro f hf
 unfold goF
 rw [(common_iff sep_need).2 (hc f hf)]
 rfl
theorem insT_set {α : Type} {l : List α} {k : Nat} {x y : α} (h : k ≤ l.length) : insT l k y = (insT l k x).set k y := by
 unfold insT
 rw [List.set_append_right _ _ (by rw [List.length_take]; omega), List.length_take, Nat.min_eq_left h, Nat.sub_self, List.set_cons_zero]
theorem ask_row_eq {j : Jns} {L : List Mis} {k : Nat} {key : S} {m : Mis} {who : Int} {need : List Sp} (hkey : m.key = key) (hk : k < L.length) (hs : m.wt.Pairwise fun a b => a.id < b.id)
  (hput : ∀ m' : Mis, putR (geM key) (eqM key) m' false j.l = L.set k m') (hJ : JOk (askQ j L k key m who need).1.1) :
  (askRM j m who need).j = (askQ j L k key m who need).1.1 ∧ (askRM j m who need).new = (askQ j L k key m who need).1.2 ∧ (askRM j m who need).e = (askQ j L k key m who need).2 := by
 revert hJ
 unfold askRM askQ
 by_cases h5 : m.wt.any (eqW who) = true
 ·rw [if_pos h5, if_pos h5]
  intro _; exact ⟨rfl, rfl, rfl⟩
 ·rw [if_neg h5, if_neg h5]
  by_cases h6 : 1000 ≤ m.wt.length ∨ 1152921504606846976 - ((minusS need (flown m)).length : Int) < j.last
  ·rw [if_pos h6, if_pos h6]
   intro _; exact ⟨rfl, rfl, rfl⟩
  ·rw [if_neg h6, if_neg h6]
   intro hJ
   refine ⟨?_, rfl, rfl⟩
   have hW : insB (gtW who) m.wt ⟨who, need⟩ = insT m.wt (posN (ltW who) m.wt) ⟨who, need⟩ := by
    refine insB_pos (split_W hs) fun y hy => ?_
    have h1 : ¬ y.id = who := fun e => h5 (yP.2 ⟨y, hy, decide_eq_true e⟩)
    unfold gtW ltW
    rw [Bool.eq_iff_iff]
    simp
    omega
   rw [hW]
   unfold askM at hJ ⊢
   generalize insT m.wt (posN (ltW who) m.wt) ⟨who, need⟩ = wt at *
   generalize minusS need (flown m) = l at *
   generalize (newF j.last l).foldl insF m.fl = fl at *
   obtain ⟨R, hR⟩ : ∃ R : Mis, R = ⟨key, fl, wt⟩ := ⟨_, rfl⟩
   have hM : MOk (j.last + l.length) R := by
    refine hJ.m R ?_
    show R ∈ L.set k ⟨key, fl, wt⟩
    rw [← hR]
    have h := yF (l := L.set k R) (n := k) (by simpa using hk)
    rwa [List.getElem_set_self] at h
   have hwt : wt ≠ [] := fun e => by
    have := hM.n1
    rw [hR] at this
    simp [e] at this
   have hc : keptD (goF (needed R)) fl = fl := kept_all (by have := hM.c; rw [hR] at this ⊢; exact this)
   show (putP ⟨j.last + l.length, j.l⟩ ⟨m.key, fl, wt⟩).j = _
   rw [hkey, ← hR]
   unfold putP
   have h1 : R.key = key := by rw [hR]
   have h2 : R.fl = fl := by rw [hR]
   have h3 : R.wt = wt := by rw [hR]
   simp only [h1, h2, h3]
   rw [hc, decide_eq_false hwt, hput, ← hR]
theorem ask_eq {j : Jns} (hj : JOk j) (key : S) (who : Int) (need : List Sp) : (askR j key who need).j = (askP j key who need).1.1 ∧ (askR j key who need).new = (askP j key who need).1.2 ∧ (askR j key who need).e = (askP j key who need).2 := by
 have hJ := ask_jok hj key who need
 revert hJ
 unfold askR askP
 split
 ·intro _; exact ⟨rfl, rfl, rfl⟩
 ·cases h1 : j.l.any (eqM key) with
  | false =>
   simp only [if_true, true_and]
   by_cases h2 : 1000 ≤ j.l.length
   ·rw [if_pos h2, if_pos h2]
    intro _; exact ⟨rfl, rfl, rfl⟩
   ·rw [if_neg h2, if_neg h2]
    have haL : askL j key = insT j.l (posN (ltM key) j.l) ⟨key, [], []⟩ := if_neg (by rw [h1]; simp)
    have hp : posN (ltM key) j.l ≤ j.l.length := posN_le
    have hlt : posN (ltM key) j.l < (insT j.l (posN (ltM key) j.l) ⟨key, [], []⟩).length := by rw [insT_len]; omega
    have hat : (insT j.l (posN (ltM key) j.l) ⟨key, [], []⟩)[posN (ltM key) j.l] = ⟨key, [], []⟩ := insT_at hp
    rw [haL, yL, yM hlt, Option.getD_some, hat]
    intro hJ
    refine ask_row_eq rfl hlt .nil (fun m' => ?_) hJ
    rw [putR_new hj.o h1]
    exact insT_set hp
  | true =>
   obtain ⟨hk, hkey⟩ := posN_any hj.o h1
   have haL : askL j key = j.l := if_pos h1
   simp only [Bool.true_eq_false, if_false, false_and]
   rw [haL, mAt_eq hk, yL, yM hk, Option.getD_some]
   intro hJ
   refine ask_row_eq hkey hk (hj.m _ (yF hk)).wo (fun m' => ?_) hJ
   rw [putR_in hj.o h1, if_neg (by simp)]
end Go.Fx.J
namespace Go.Fx.R
theorem cut1_len {s t : Sp} : (cut1 s t).length ≤ 2 ∧ ((t.1 < s.1 ∧ s.2 < t.2) ∨ (cut1 s t).length ≤ 1) ∧ (s.1 < s.2 → s.2 ≤ t.1 → (cut1 s t).length ≤ 1) := by
 unfold cut1
 rw [yE]
 refine ⟨?_, ?_, fun h1 h2 => ?_⟩
 ·split <;> split <;> simp
 ·split <;> split <;> simp <;> omega
 ·split <;> split <;> simp <;> omega
theorem flat_one {s : Sp} (hs : s.1 < s.2) : ∀ {l : List Sp}, (∀ t ∈ l, s.2 ≤ t.1) → (l.flatMap (cut1 s)).length ≤ l.length
 | [], _ => by simp
 | t :: l, h => by
  rw [List.flatMap_cons, yE, yG]
  have := flat_one hs fun u hu => h u (List.mem_cons_of_mem _ hu)
  have := (cut1_len (s := s) (t := t)).2.2 hs (h t List.mem_cons_self)
  omega
theorem cut_len {s : Sp} : ∀ {l : List Sp}, Sep l → (cutS l s).length ≤ l.length + 1 := by
 intro l hl
 unfold cutS
 split
 ·omega
 ·rename_i hs
  have hs : s.1 < s.2 := by omega
  induction l with
  | nil => simp
  | cons t l ih =>
   obtain ⟨h1, h2, h3⟩ := sep_cons.1 hl
   rw [List.flatMap_cons, yE, yG]
   obtain ⟨c1, c2, _⟩ := cut1_len (s := s) (t := t)
   rcases c2 with c2 | c2
   ·have := flat_one hs (l := l) fun u hu => by have := h2 u hu; omega
    omega
   ·have := ih h3
    omega
theorem minus_len : ∀ {b a : List Sp}, Sep a → (minusS a b).length ≤ a.length + b.length
 | [], a, _ => by simp [minusS]
 | s :: b, a, h => by
  have h1 := cut_len (s := s) h
  have h2 := minus_len (b := b) (sep_cutS (s := s) h)
  show (minusS (cutS a s) b).length ≤ _
  rw [yG]
  omega
theorem addStep_len : ∀ {l : List Sp} {o : List Sp} {b : Bool} {s : Sp}, (addEnd (l.foldl addStep (o, b, s))).length ≤ l.length + o.length + (if b = true then 0 else 1)
 | [], o, b, s => by
  cases b <;> simp [addEnd]
 | t :: l, o, b, s => by
  rw [List.foldl_cons, yG]
  unfold addStep
  split
  ·refine yH (addStep_len (l := l)) ?_
   simp; omega
  ·split
   ·refine yH (addStep_len (l := l)) ?_
    cases b <;> simp <;> omega
   ·refine yH (addStep_len (l := l)) ?_
    simp
theorem add_len {l : List Sp} {s : Sp} : (addS l s).length ≤ l.length + 1 := by
 unfold addS
 split
 ·omega
 ·have := addStep_len (l := l) (o := []) (b := false) (s := s)
  simpa using this
theorem both_len : ∀ {b a : List Sp}, (bothS a b).length ≤ a.length + b.length
 | [], a => by simp [bothS]
 | s :: b, a => by
  have h1 := add_len (l := a) (s := s)
  have h2 := both_len (b := b) (a := addS a s)
  show (bothS (addS a s) b).length ≤ _
  rw [yG]
  omega
theorem ofS_len {l : List Sp} : (ofS l).length ≤ l.length := by
 have := both_len (a := []) (b := l)
 rw [List.length_nil, Nat.zero_add] at this
 exact this
end Go.Fx.R
namespace Go.Fx.J
open Go Go.Fx Go.Proofs Go.Fx.R
set_option maxRecDepth 20000
theorem mem_set' {L : List Mis} {k : Nat} {x m : Mis} (h : m ∈ L.set k x) : m = x ∨ m ∈ L := by
 rcases List.mem_or_eq_of_mem_set h with h | h
 ·exact .inr h
 ·exact .inl h
theorem clean_few {L : List Mis} {k : Nat} {key : S} {fl : List Fet} {wt : List Wai} {N : Nat} (hL : ∀ m ∈ L, m.fl.length ≤ N) (hf : fl.length ≤ N) : ∀ m ∈ cleanL L k key fl wt, m.fl.length ≤ N := by
 intro m hm
 unfold cleanL at hm
 split at hm
 ·exact hL m (mem_less hm)
 ·rcases mem_set' hm with rfl | hm
  ·exact yH keptD_len hf
  ·exact hL m hm
theorem clean_n {L : List Mis} {k : Nat} {key : S} {fl : List Fet} {wt : List Wai} : (cleanL L k key fl wt).length ≤ L.length := by
 unfold cleanL
 split
 ·unfold lessL; simp; omega
 ·simp
theorem mAt_fl {j : Jns} {k N : Nat} (h : ∀ m ∈ j.l, m.fl.length ≤ N) : (mAt j k).fl.length ≤ N := by
 unfold mAt
 rw [yL]
 rcases yN k j.l.length with hk | hk
 ·rw [yM hk]
  exact h _ (yF hk)
 ·rw [yU hk]; simp
theorem few_leave {j : Jns} (h : Few1 j) (key : S) (who : Int) : Few1 (leaveP j key who).1.1 := by
 unfold leaveP
 split
 ·exact h
 ·split
  ·exact h
  ·exact ⟨yH clean_n h.n, clean_few h.f (mAt_fl h.f)⟩
theorem few_ask {j : Jns} (h : Few1 j) (hn : j.l.length ≤ 1000) (hf : ∀ m ∈ j.l, m.fl.length ≤ 12) (key : S) (who : Int) (need : List Sp) (hl : need.length ≤ 8) : Few1 (askP j key who need).1.1 := by
 unfold askP
 split
 ·exact h
 ·split
  ·exact h
  ·rename_i h1 h2
   have hL : (askL j key).length ≤ 1001 ∧ ∀ m ∈ askL j key, m.fl.length ≤ 12 := by
    unfold askL
    split
    ·exact ⟨by omega, hf⟩
    ·refine ⟨by rw [insT_len]; omega, fun m hm => ?_⟩
     rcases insT_mem.1 hm with rfl | hm
     ·simp
     ·exact hf m hm
   have hv : Sep need := (vd_iff.1 (by
    cases e : vd need with
    | true => rfl
    | false => exact absurd (.inr (.inl e)) h1)).1
   have hml : ((askL j key).getD (posN (ltM key) j.l) ⟨[], [], []⟩).fl.length ≤ 12 := by
    rw [yL]
    rcases yN (posN (ltM key) j.l) (askL j key).length with hk | hk
    ·rw [yM hk]
     exact hL.2 _ (yF hk)
    ·rw [yU hk]; simp
   generalize (askL j key).getD (posN (ltM key) j.l) ⟨[], [], []⟩ = m at *
   generalize askL j key = L at *
   unfold askQ
   split
   ·exact h
   ·split
    ·exact h
    ·have h4 := minus_len (b := flown m) hv
     have h5 : (flown m).length ≤ 12 := by
      refine yH ofS_len ?_
      rw [List.length_map]; exact hml
     unfold askM
     refine ⟨by show (L.set _ _).length ≤ _; rw [List.length_set]; omega, fun m' hm' => ?_⟩
     rcases mem_set' hm' with rfl | hm'
     ·show ((newF j.last (minusS need (flown m))).foldl insF m.fl).length ≤ _
      rw [insFs_perm.length_eq, yE, newF_len]
      omega
     ·have := hL.2 m' hm'
      omega
end Go.Fx.J
namespace Go.Fx.J
open Go Go.Fx Go.Proofs Go.Fx.R
set_option maxRecDepth 20000
theorem ok3 (j : Jns) (key : S) (who : Int) (need : List Sp) : Ok 3 [.agg j.enc, sv key, .i who, spans need] (Is (.b true)) := by
 refine ok_of lw3 (by simp) ?_
 unfold c3
 simp -implicitDefEqProofs only [rX,↓rY,ofConst,cells?,↓reduceIte,Nat.reduceEqDiff,Nat.reduceAdd,freshP,cxN,yB,yA,args0]
 refine call_is (ok8 j) (by simp [lendsOk, lendOk, lends, lend, wkL, wk, wkR, wkB]) rfl trivial ?_
 cases h0 : fewB j && validB j with
 | false =>
  simp -implicitDefEqProofs only [rX,↓rY,ofConst,↓reduceIte,Nat.reduceEqDiff]
  refine call_is ok9 (by simp [lendsOk, lends, wkL]) rfl trivial ?_
  simp -implicitDefEqProofs only [rX,↓reduceIte,resP,tupV,wfV]
 | true =>
  simp -implicitDefEqProofs only [rX,↓rY,ofConst,↓reduceIte,Nat.reduceEqDiff,Nat.reduceAdd,reduceCtorEq,sb_size,yB,yA]
  cases h1 : decide ((5000 : Int) < (key.length : Int)) with
  | true =>
   simp -implicitDefEqProofs only [↓rY]
   refine call_is ok9 (by simp [lendsOk, lends, wkL]) rfl trivial ?_
   simp -implicitDefEqProofs only [rX,↓reduceIte,resP,tupV,wfV]
  | false =>
   simp -implicitDefEqProofs only [↓rY]
   intro _
   cases h2 : decide ((8 : Int) < (need.length : Int)) with
   | true =>
    simp -implicitDefEqProofs only [↓rY]
    refine call_is ok9 (by simp [lendsOk, lends, wkL]) rfl trivial ?_
    simp -implicitDefEqProofs only [rX,↓reduceIte,resP,tupV,wfV]
   | false =>
    have h1' := of_decide_eq_false h1
    have h2' := of_decide_eq_false h2
    rw [Bool.and_eq_true] at h0
    have hJ := valid_iff.1 h0.2
    have hb := fewB_1 h0.1
    have hn := hJ.n
    have hfl : ∀ m ∈ j.l, m.fl.length ≤ 1099511627776 := fun m hm => by have := (hb.2 m hm).2.1; omega
    have hf12 : ∀ m ∈ j.l, m.fl.length ≤ 12 := fun m hm => (hb.2 m hm).2.1
    have hF1 := few1_of h0.1
    have hA := ask_jok hJ key who need
    have hA1 := few_ask hF1 hn hf12 key who need (by omega)
    have hB := leave_jok hJ key who
    have hB1 := few_leave hF1 key who
    obtain ⟨e1, e2, e3⟩ := ask_eq hJ key who need
    have e4 := leave_eq hJ key who
    have hvA := valid_iff.2 hA
    have hvB := valid_iff.2 hB
    simp -implicitDefEqProofs only [↓rY]
    refine call_is (ok10 j key who need hJ hfl (by omega) (by omega)) (by simp [lendsOk, lendOk, lends, lend, wkL, wk, wkR, wkB]) rfl trivial ?_
    generalize askP j key who need = ra at *
    simp -implicitDefEqProofs only [rX,↓rY,ofConst,cells?,splice,↓reduceIte,Nat.reduceEqDiff,Nat.reduceAdd,reduceCtorEq,freshP,isC,yC,yB,yA]
    refine call_is (ok11 j key who need hJ hfl (by omega) (by omega)) (by simp [lendsOk, lendOk, lends, lend, wkL, wk, wkR, wkB]) rfl trivial ?_
    generalize askR j key who need = ca at *
    obtain ⟨J, a, b, c, x⟩ := ca
    simp only at e1 e2 e3
    subst e1 e2 e3
    obtain ⟨⟨J, b⟩, x⟩ := ra
    simp only at hA hA1 hvA
    simp -implicitDefEqProofs only [rX,↓rY,ofConst,cells?,splice,↓reduceIte,Nat.reduceEqDiff,Nat.reduceAdd,freshP,resP,tupV,wfV,isC,Nat.reduceLeDiff,yC,yB,yA,Chg.enc,bne_self_eq_false]
    refine call_is (ok12e J) (by simp [lendsOk, lendOk, lends, lend, wkL, wk, wkR, wkB]) rfl trivial ?_
    simp -implicitDefEqProofs only [rX,↓rY,↓reduceIte,Nat.reduceEqDiff]
    refine call_is (ok13e b) (by simp [lendsOk, lendOk, lends, lend, wkL, wk, wkR, wkB]) rfl trivial ?_
    simp -implicitDefEqProofs only [rX,↓rY,↓reduceIte,Nat.reduceEqDiff,Nat.reduceAdd,yB,yA]
    refine call_is (ok14 J hA1) (by simp [lendsOk, lendOk, lends, lend, wkL, wk, wkR, wkB]) rfl trivial ?_
    simp -implicitDefEqProofs only [rX,↓rY,↓reduceIte,Nat.reduceEqDiff,Nat.reduceAdd,reduceCtorEq,yB,yA,hvA]
    refine call_is (ok15 j key who hJ hfl) (by simp [lendsOk, lendOk, lends, lend, wkL, wk, wkR, wkB]) rfl trivial ?_
    simp -implicitDefEqProofs only [rX,↓rY,ofConst,cells?,splice,↓reduceIte,Nat.reduceEqDiff,Nat.reduceAdd,reduceCtorEq,freshP,isC,yC,yB,yA]
    refine call_is (ok16 j key who hJ hfl) (by simp [lendsOk, lendOk, lends, lend, wkL, wk, wkR, wkB]) rfl trivial ?_
    rw [e4]
    generalize leaveP j key who = rb at *
    obtain ⟨⟨K, d⟩, y⟩ := rb
    simp only at hB hB1 hvB
    simp -implicitDefEqProofs only [rX,↓rY,ofConst,cells?,splice,↓reduceIte,Nat.reduceEqDiff,Nat.reduceAdd,freshP,isC,yC,yA,Chg.enc]
    refine call_is ok9 (by simp [lendsOk, lends, wkL]) rfl trivial ?_
    simp -implicitDefEqProofs only [rX,↓rY,↓reduceIte,Nat.reduceEqDiff,Nat.reduceAdd,Nat.reduceLeDiff,yB,yA,beq_self_eq_true]
    refine call_is (ok12e K) (by simp [lendsOk, lendOk, lends, lend, wkL, wk, wkR, wkB]) rfl trivial ?_
    simp -implicitDefEqProofs only [rX,↓rY,↓reduceIte,Nat.reduceEqDiff]
    refine call_is (ok17e d) (by simp [lendsOk, lendOk, lends, lend, wkL, wk, wkR, wkB]) rfl trivial ?_
    simp -implicitDefEqProofs only [rX,↓rY,↓reduceIte,Nat.reduceEqDiff,Nat.reduceAdd,yB,yA]
    refine call_is (ok14 K hB1) (by simp [lendsOk, lendOk, lends, lend, wkL, wk, wkR, wkB]) rfl trivial ?_
    simp -implicitDefEqProofs only [rX,↓rY,↓reduceIte,Nat.reduceEqDiff,resP,tupV,wfV,hvB]
end Go.Fx.J
namespace Go.Fx.J
open Go Go.Fx Go.Proofs Go.Fx.R
theorem fn3 : ∀ xs, WfA [tJns, .str, .int .i64, tSps] xs → Fn Tryz.prog 3 xs [] [] (fun r _ => r = .b true) := by
 intro xs h
 obtain ⟨x1, _, rfl, h1, x2, _, rfl, h2, x3, _, rfl, h3, x4, _, rfl, h4, h⟩ := h
 obtain rfl : _ = [] := h
 obtain ⟨j, rfl⟩ := wv_jns h1
 obtain ⟨s, rfl⟩ := wv_str h2
 obtain ⟨n, rfl⟩ := wv_int h3
 obtain ⟨l, rfl⟩ := wv_sps h4
 exact fn_of (ok3 j s n l)
end Go.Fx.J
