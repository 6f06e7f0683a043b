import Derived.Test.YtjijbjnelflcfaaGreatT55
import Derived.Test.YtjijbjnelflcfaaGreatT12
set_option linter.unusedVariables false
set_option linter.unusedSimpArgs false
set_option linter.unusedSectionVars false
open Bool renaming true_and → yA, true_eq_false → yM
open List renaming take_succ_cons → yB, drop_succ_cons → yC, take → yD, getElem_mem → yE, length_append → yF, take_of_length_le → yH, append_nil → yI, length_cons → yJ, drop → yK, map_append → yN, any_eq_true → yO, findIdx_lt_length → yP, getD_eq_getElem?_getD → yQ, getElem?_eq_getElem → yS, getElem?_eq_none → yT, replicate_succ → yU, length_take_of_le → yV, mem_cons_of_mem → yW, length_singleton → yX
open Nat renaming le_trans → yG, lt_or_ge → yL
namespace Go.Fx.J
open Go Go.Fx Go.Proofs Go.Fx.R
set_option maxRecDepth 20000
def failRM (j : Jns) (m : Mis) (i : Nat) : Chg :=
 { putP j ⟨m.key, lessL m.fl i, keptD (goW (fAt m i).sp) m.wt⟩ with who := outsD (goW (fAt m i).sp) Wai.id m.wt }
def failR (j : Jns) (key : S) (id : Int) : Chg :=
 if j.l.any (eqM key) = false then noC j 5
 else if (mAt j (posN (ltM key) j.l)).fl.any (eqF id) = false then noC j 5
 else failRM j (mAt j (posN (ltM key) j.l)) ((mAt j (posN (ltM key) j.l)).fl.findIdx (eqF id))
theorem ok21 (j : Jns) (key : S) (id : Int) (hj : JOk j) (hf : ∀ m ∈ j.l, m.fl.length ≤ 1000000) : Ok 21 [.agg j.enc, sv key, .i id] (Is (.agg (failR j key id).enc)) := by
 refine okN_gv ?_
 refine ok_of lw21f (by simp) ?_
 unfold c21f
 have hn := hj.n
 simp -implicitDefEqProofs only [rX,↓rY,ofConst,cells?,↓reduceIte,Nat.reduceEqDiff,Nat.reduceAdd,reduceCtorEq,freshP,cxN,k_nil,yB,yA,args0]
 refine call_is (ok28 (.i j.last) j.l key (by omega)) (by simp [lendsOk, lendOk, lends, lend, wkL, wk, wkR, wkB]) rfl trivial ?_
 rw [find_pos hj.o]
 cases h1 : j.l.any (eqM key) with
 | false =>
  have hl : failR j key id = noC j 5 := by unfold failR; rw [if_pos h1]
  rw [hl, if_neg (by simp)]
  have hd : decide ((-1 : Int) < 0) = true := rfl
  simp -implicitDefEqProofs only [rX,↓rY,ofConst,cells?,splice,↓reduceIte,Nat.reduceEqDiff,Nat.reduceAdd,reduceCtorEq,buildP,isC,Nat.reduceLeDiff,ms_len,ms_t,yC,yB,yA,hd]
  refine ret_data ?_
  simp -implicitDefEqProofs only [rX,↓rY,↓reduceIte,Nat.reduceEqDiff,Nat.reduceAdd,resP,tupV,wfV,wfL,yB,yA]
  simp [Gv, tupV, gvV, gvL, wk, wkL, wkR, wfV, wfL, noC, Chg.enc]
 | true =>
  obtain ⟨hk, hkey⟩ := posN_any hj.o h1
  have hm := hj.m _ (yE hk)
  have hfl := hf _ (yE hk)
  have hat := mAt_eq hk
  have hl : failR j key id = if (mAt j (posN (ltM key) j.l)).fl.any (eqF id) = false then noC j 5 else failRM j (mAt j (posN (ltM key) j.l)) ((mAt j (posN (ltM key) j.l)).fl.findIdx (eqF id)) := by
   unfold failR
   rw [if_neg (by rw [h1]; simp)]
  rw [hat] at hl
  rw [if_pos rfl]
  generalize posN (ltM key) j.l = k at *
  have hd : decide ((k : Int) < 0) = false := decide_eq_false (by omega)
  simp -implicitDefEqProofs only [rX,↓rY,ofConst,cells?,splice,↓reduceIte,Nat.reduceEqDiff,Nat.reduceAdd,reduceCtorEq,buildP,isC,Nat.reduceLeDiff,ms_len,ms_t,yC,yB,yA,hd]
  refine ⟨⟨by omega, by omega⟩, hk, ?_⟩
  have hmw : ∀ w ∈ j.l[k].wt, Vd w.need := fun w h => vd_vs (hm.w w h).1
  have hmn := hm.n
  obtain ⟨m, hme⟩ : ∃ m, j.l[k] = m := ⟨_, rfl⟩
  rw [hme] at hl hm hfl hmw hmn hkey ⊢
  have h58 := ok58 (sv m.key) (wais m.wt) m.fl id hfl
  unfold fstI at h58
  refine call_is h58 (by simp [lendsOk, lendOk, lends, lend, wkL, wk, wkR, wkB, Mis.enc]) rfl trivial ?_
  cases h2 : m.fl.any (eqF id) with
  | false =>
   rw [if_pos h2] at hl
   rw [hl, if_neg (by simp)]
   have hd : decide ((-1 : Int) < 0) = true := rfl
   simp -implicitDefEqProofs only [rX,↓rY,ofConst,cells?,splice,↓reduceIte,Nat.reduceEqDiff,Nat.reduceAdd,reduceCtorEq,freshP,buildP,isC,Nat.reduceLeDiff,ms_len,ms_t,ms_C,yC,yB,yA,hd]
   refine ret_data ?_
   simp -implicitDefEqProofs only [rX,↓rY,↓reduceIte,Nat.reduceEqDiff,Nat.reduceAdd,resP,tupV,wfV,wfL,yB,yA]
   simp [Gv, tupV, gvV, gvL, wk, wkL, wkR, wfV, wfL, noC, Chg.enc]
  | true =>
   rw [if_neg (by rw [h2]; simp)] at hl
   rw [if_pos rfl]
   rw [if_pos h2] at h58
   have hi : m.fl.findIdx (eqF id) < m.fl.length := by
    obtain ⟨f, hf, he⟩ := yO.1 h2
    exact yP.2 ⟨f, hf, he⟩
   have hd2 : decide ((m.fl.findIdx (eqF id) : Int) < 0) = false := decide_eq_false (by omega)
   simp -implicitDefEqProofs only [rX,↓rY,ofConst,cells?,splice,↓reduceIte,Nat.reduceEqDiff,Nat.reduceAdd,reduceCtorEq,freshP,buildP,isC,Nat.reduceLeDiff,ms_len,ms_t,ms_C,yC,yB,yA,hd2]
   refine ⟨⟨by omega, by omega⟩, hk, ?_⟩
   rw [hme]
   refine call_is h58 (by simp [lendsOk, lendOk, lends, lend, wkL, wk, wkR, wkB, Mis.enc]) rfl trivial ?_
   have hfa : fAt m (m.fl.findIdx (eqF id)) = m.fl[m.fl.findIdx (eqF id)] := fAt_eq hi
   unfold failRM at hl
   rw [hfa] at hl
   generalize m.fl.findIdx (eqF id) = n at *
   simp -implicitDefEqProofs only [rX,↓rY,ofConst,cells?,splice,↓reduceIte,Nat.reduceEqDiff,Nat.reduceAdd,freshP,enS_len,enS_C,ft_len,ft_d1,ms_len,ms_t,ms_1,yC,yA]
   refine ⟨⟨by omega, by omega⟩, hi, ?_⟩
   have hspv := vd_vs (vs_one (hm.f _ (yE hi)).1)
   generalize m.fl[n] = F at *
   refine call_is (ok59 m n hi (by omega)) (by simp [lendsOk, lendOk, lends, lend, wkL, wk, wkR, wkB, Mis.enc]) rfl trivial ?_
   have hll : (lessL m.fl n).length ≤ m.fl.length := by unfold lessL; simp; omega
   simp -implicitDefEqProofs only [rX,↓rY,ofConst,cells?,splice,↓reduceIte,Nat.reduceEqDiff,Nat.reduceAdd,ms_len,ms_C,yA]
   rw [show yK 3 m.enc = [] from rfl, yI]
   have hKl := fun i => keptD_len (p := goW F.sp) (l := m.wt.take i)
   have hOl := fun i => outsD_len (p := goW F.sp) (id := Wai.id) (l := m.wt.take i)
   obtain ⟨M, hM⟩ : ∃ M : Mis, M = ⟨m.key, lessL m.fl n, m.wt⟩ := ⟨_, rfl⟩
   rw [← hM]
   have hMw : M.wt = m.wt := by rw [hM]
   have hle : leVs (enS F.sp) (enS F.sp) := ⟨rfl, rfl, trivial⟩
   have hwf : ∀ q, wfL q (enS F.sp) := fun q => ⟨trivial, trivial, trivial⟩
   refine loopP_ghost (.virt 1 1 (by decide) (.virt 1 2 (by decide) (.nilE 11 4 rfl (.nilE 12 5 rfl (.refl _))))) (fun i : Nat => ⟨[(13, .i i), (12, .sl 5 0 (keptD (goW F.sp) (m.wt.take i)).length), (11, .sl 4 0 (outsD (goW F.sp) Wai.id (m.wt.take i)).length), (10, .ptr 3 0 0), (8, .ptr 2 0 0), (6, .ptr 1 0 0), (3, .ptr 0 0 0)], [.var j.enc, .var [.i 0, .nil, .nil, .nil, .nil, .i 0], .var M.enc, .var (enS F.sp), .arr 1 ((outsD (goW F.sp) Wai.id (m.wt.take i)).map encI), .arr 2 ((keptD (goW F.sp) (m.wt.take i)).map Wai.enc)], 4⟩) (fun i => i ≤ m.wt.length) (fun i => m.wt.length - i) 0 (by omega) ?_ ?_
   ·simp -implicitDefEqProofs only [rX,↓reduceIte,Nat.reduceEqDiff,leE,leH,leB,leV,leVs,keepP,liveP,wfE,wfB,wfV,wfL,ms_wf,ms_le,yA,yU,keptD,outsD,List.filter_nil,Int.natCast_zero]
    exact ⟨hle, hwf _⟩
   rintro i hi0
   unfold c21l0
   have hKl := keptD_len (p := goW F.sp) (l := m.wt.take i)
   have hOl := outsD_len (p := goW F.sp) (id := Wai.id) (l := m.wt.take i)
   rw [yV hi0] at hKl hOl
   rcases yL i m.wt.length with hi' | hi'
   ·have hd : decide ((i : Int) < (m.wt.length : Int)) = true := decide_eq_true (by omega)
    have hii : (0 : Int) ≤ i ∧ (i : Int) < m.wt.length := ⟨by omega, by omega⟩
    obtain ⟨s1, s2⟩ := kept_step (p := goW F.sp) (id := Wai.id) hi'
    have hwv := hmw _ (yE hi')
    generalize keptD (goW F.sp) (m.wt.take i) = K at *
    generalize outsD (goW F.sp) Wai.id (m.wt.take i) = D at *
    have htK : yD K.length (K.map Wai.enc) = K.map Wai.enc := yH (by simp)
    have htD : yD D.length (D.map encI) = D.map encI := yH (by simp)
    simp -implicitDefEqProofs only [rX,↓rY,↓reduceIte,Nat.reduceEqDiff,Nat.reduceAdd,enS_len,enS_take,wt_1,ms_2,yA,hd,hMw]
    refine fun _ => ⟨hii, hi', ?_⟩
    refine call_is (ok65 m.wt[i].need F.sp hwv) (by simp [lendsOk, lendOk, lends, lend, wkL, wk, wkR, wkB, enS]) rfl trivial ?_
    have hg : goW F.sp m.wt[i] = common m.wt[i].need F.sp := rfl
    rw [hg] at s1 s2
    cases hc : common m.wt[i].need F.sp with
    | true =>
     simp only [hc, if_true, yI] at s1 s2
     simp -implicitDefEqProofs only [rX,↓rY,ofConst,cells?,↓reduceIte,Nat.reduceEqDiff,Nat.reduceAdd,reduceCtorEq,freshP,litsP,leE,leH,leB,leV,leVs,keepP,liveP,wfE,wfB,wfV,wfL,killE,killB,kill,kills,St.kill,isD,Nat.reduceLT,enS_kill,wt_0,ms_2,ms_k,ms_wf,ms_le,yB,yA,hMw]
     exact ⟨hii, hi', by omega, by simp only [lo, Fx.hi]; omega, i + 1, ⟨hi', by omega⟩, ⟨by omega, by rw [s1], by rw [s2, yF]; rfl⟩, ⟨hle, by rw [s2, htD, yN]; rfl, by rw [s1]⟩, hwf _⟩
    | false =>
     simp only [hc, Bool.false_eq_true, if_false, yI] at s1 s2
     simp -implicitDefEqProofs only [rX,↓rY,ofConst,cells?,↓reduceIte,Nat.reduceEqDiff,Nat.reduceAdd,reduceCtorEq,freshP,litsP,leE,leH,leB,leV,leVs,keepP,liveP,wfE,wfB,wfV,wfL,killE,killB,kill,kills,St.kill,Nat.reduceLT,enS_kill,wt_len,wt_t,wt_D,wt_k,ms_2,ms_k,ms_wf,ms_le,yB,yA,hMw,↓op_litsf,↓frzP_n,↓frzP_c,↓frzQ_a]
     exact ⟨hii, hi', by omega, by simp only [lo, Fx.hi]; omega, i + 1, ⟨hi', by omega⟩, ⟨by omega, by rw [s1, yF]; rfl, by rw [s2]⟩, ⟨hle, by rw [s2], by rw [s1, htK, yN]; rfl⟩, hwf _⟩
   ·have hd : decide ((i : Int) < (m.wt.length : Int)) = false := decide_eq_false (by omega)
    have hie : i = m.wt.length := by omega
    subst hie
    rw [List.take_length] at hKl hOl ⊢
    have hKm : ∀ w ∈ keptD (goW F.sp) m.wt, Vd w.need := fun w h => hmw w (List.mem_filter.1 h).1
    generalize keptD (goW F.sp) m.wt = K at *
    generalize outsD (goW F.sp) Wai.id m.wt = D at *
    have htK : yD K.length (K.map Wai.enc) = K.map Wai.enc := yH (by simp)
    have htD : yD D.length (D.map encI) = D.map encI := yH (by simp)
    rw [hM, hl]
    simp -implicitDefEqProofs only [rX,↓rY,cells?,splice,↓reduceIte,Nat.reduceEqDiff,Nat.reduceAdd,reduceCtorEq,isC,ms_len,ms_2,yB,yA,hd,↓frzP_n,↓frzP_c,↓frzQ_s,↓frz1_a,↓aw_frz,get_frzE,frzV,frzL,frzB,Nat.reduceEqDiff,htK,ms_frz]
    refine fun _ => ⟨by simp [Mis.enc], ?_⟩
    have hRW : yD 2 (Mis.enc ⟨m.key, lessL m.fl n, m.wt⟩) ++ [V.ro 2 (List.map Wai.enc K)] ++ yK 3 (Mis.enc ⟨m.key, lessL m.fl n, m.wt⟩) = Mis.enc ⟨m.key, lessL m.fl n, K⟩ := rfl
    rw [hRW, show yD 3 (Mis.enc ⟨m.key, lessL m.fl n, K⟩) = Mis.enc ⟨m.key, lessL m.fl n, K⟩ from rfl]
    refine call_is (ok50 j ⟨m.key, lessL m.fl n, K⟩ (by omega) hKm (by show K.length ≤ _; omega) (by show (lessL m.fl n).length ≤ _; omega)) (by simp [lendsOk, lendOk, lends, lend, wkL, wk, wkR, wkB, Mis.enc]) rfl trivial ?_
    generalize putP j ⟨m.key, lessL m.fl n, K⟩ = C
    obtain ⟨J, a, b, c, e⟩ := C
    simp -implicitDefEqProofs only [rX,↓rY,ofConst,cells?,splice,↓reduceIte,Nat.reduceEqDiff,Nat.reduceAdd,freshP,isC,Nat.reduceLeDiff,yC,yB,yA,Chg.enc,get_frzE,frzV,Nat.reduceEqDiff]
    simp -implicitDefEqProofs only [rX,↓rY,↓reduceIte,Nat.reduceEqDiff,Nat.reduceAdd,resP,tupV,keepP,liveP,wfV,wfL,yB,yA,get_frzE,frzV,Nat.reduceEqDiff,retP_eq]
    refine ⟨[.dead, .dead, .dead, .dead, .arr 1 (D.map encI)], ⟨by simp [leH, leB], Nat.zero_le _, by simp, by simp [wfB]⟩, ?_⟩
    simp [Gv, tupV, gvV, gvL, wk, wkL, wkR, wfV, wfL, blk, htD]
end Go.Fx.J
namespace Go.Fx.J
open Go Go.Fx Go.Proofs Go.Fx.R
set_option maxRecDepth 20000
def comeRW (m : Mis) (i : Nat) (got : List Sp) : List Sp := meetS (minusS [(fAt m i).sp] (meetS [(fAt m i).sp] got)) (needed ⟨m.key, lessL m.fl i, comeR m.wt (meetS [(fAt m i).sp] got)⟩)
def comeRM (j : Jns) (m : Mis) (i : Nat) (got : List Sp) : Chg :=
 if 1152921504606846976 - ((comeRW m i got).length : Int) < j.last then noC j 2
 else { putP ⟨j.last + (comeRW m i got).length, j.l⟩ ⟨m.key, (newF j.last (comeRW m i got)).foldl insF (lessL m.fl i), comeR m.wt (meetS [(fAt m i).sp] got)⟩ with who := comeD m.wt (meetS [(fAt m i).sp] got), new := newF j.last (comeRW m i got) }
def comeC (j : Jns) (key : S) (id : Int) (got : List Sp) : Chg :=
 if j.l.any (eqM key) = false then noC j 5
 else if (mAt j (posN (ltM key) j.l)).fl.any (eqF id) = false then noC j 5
 else if vd got = false then noC j 1
 else comeRM j (mAt j (posN (ltM key) j.l)) ((mAt j (posN (ltM key) j.l)).fl.findIdx (eqF id)) got
theorem ok19 (j : Jns) (key : S) (id : Int) (got : List Sp) (hj : JOk j) (hf : ∀ m ∈ j.l, m.fl.length ≤ 1000000) : Ok 19 [.agg j.enc, sv key, .i id, spans got] (Is (.agg (comeC j key id got).enc)) := by
 refine okN_gv ?_
 refine ok_of lw19f (by simp) ?_
 unfold c19f
 have hn := hj.n
 simp -implicitDefEqProofs only [rX,↓rY,ofConst,cells?,↓reduceIte,Nat.reduceEqDiff,Nat.reduceAdd,reduceCtorEq,freshP,cxN,k_nil,yB,yA,args0]
 refine call_is (ok28 (.i j.last) j.l key (by omega)) (by simp [lendsOk, lendOk, lends, lend, wkL, wk, wkR, wkB]) rfl trivial ?_
 rw [find_pos hj.o]
 cases h1 : j.l.any (eqM key) with
 | false =>
  have hl : comeC j key id got = noC j 5 := by unfold comeC; rw [if_pos h1]
  rw [hl, if_neg (by simp)]
  have hd : decide ((-1 : Int) < 0) = true := rfl
  simp -implicitDefEqProofs only [rX,↓rY,ofConst,cells?,splice,↓reduceIte,Nat.reduceEqDiff,Nat.reduceAdd,reduceCtorEq,buildP,isC,Nat.reduceLeDiff,ms_len,ms_t,yC,yB,yA,hd]
  refine ret_data ?_
  simp -implicitDefEqProofs only [rX,↓rY,↓reduceIte,Nat.reduceEqDiff,Nat.reduceAdd,resP,tupV,wfV,wfL,yB,yA]
  simp [Gv, tupV, gvV, gvL, wk, wkL, wkR, wfV, wfL, noC, Chg.enc]
 | true =>
  obtain ⟨hk, hkey⟩ := posN_any hj.o h1
  have hm := hj.m _ (yE hk)
  have hfl := hf _ (yE hk)
  have hat := mAt_eq hk
  have hl : comeC j key id got = if (mAt j (posN (ltM key) j.l)).fl.any (eqF id) = false then noC j 5 else if vd got = false then noC j 1 else comeRM j (mAt j (posN (ltM key) j.l)) ((mAt j (posN (ltM key) j.l)).fl.findIdx (eqF id)) got := by
   unfold comeC
   rw [if_neg (by rw [h1]; simp)]
  rw [hat] at hl
  rw [if_pos rfl]
  generalize posN (ltM key) j.l = k at *
  have hd : decide ((k : Int) < 0) = false := decide_eq_false (by omega)
  simp -implicitDefEqProofs only [rX,↓rY,ofConst,cells?,splice,↓reduceIte,Nat.reduceEqDiff,Nat.reduceAdd,reduceCtorEq,buildP,isC,Nat.reduceLeDiff,ms_len,ms_t,yC,yB,yA,hd]
  refine ⟨⟨by omega, by omega⟩, hk, ?_⟩
  have hmw : ∀ w ∈ j.l[k].wt, Vd w.need := fun w h => vd_vs (hm.w w h).1
  have hmn := hm.n
  obtain ⟨m, hme⟩ : ∃ m, j.l[k] = m := ⟨_, rfl⟩
  rw [hme] at hl hm hfl hmw hmn hkey ⊢
  have h58 := ok58 (sv m.key) (wais m.wt) m.fl id hfl
  unfold fstI at h58
  refine call_is h58 (by simp [lendsOk, lendOk, lends, lend, wkL, wk, wkR, wkB, Mis.enc]) rfl trivial ?_
  cases h2 : m.fl.any (eqF id) with
  | false =>
   rw [if_pos h2] at hl
   rw [hl, if_neg (by simp)]
   have hd : decide ((-1 : Int) < 0) = true := rfl
   simp -implicitDefEqProofs only [rX,↓rY,ofConst,cells?,splice,↓reduceIte,Nat.reduceEqDiff,Nat.reduceAdd,reduceCtorEq,buildP,isC,Nat.reduceLeDiff,yC,yB,yA,hd]
   refine ret_data ?_
   simp -implicitDefEqProofs only [rX,↓rY,↓reduceIte,Nat.reduceEqDiff,Nat.reduceAdd,resP,tupV,wfV,wfL,yB,yA]
   simp [Gv, tupV, gvV, gvL, wk, wkL, wkR, wfV, wfL, noC, Chg.enc]
  | true =>
   rw [if_neg (by rw [h2]; simp)] at hl
   rw [if_pos rfl]
   rw [if_pos h2] at h58
   have hi : m.fl.findIdx (eqF id) < m.fl.length := by
    obtain ⟨f, hf, he⟩ := yO.1 h2
    exact yP.2 ⟨f, hf, he⟩
   have hd2 : decide ((m.fl.findIdx (eqF id) : Int) < 0) = false := decide_eq_false (by omega)
   simp -implicitDefEqProofs only [rX,↓rY,ofConst,cells?,splice,↓reduceIte,Nat.reduceEqDiff,Nat.reduceAdd,reduceCtorEq,buildP,isC,Nat.reduceLeDiff,yC,yB,yA,hd2]
   refine call_is (ok22 got) (by simp [lendsOk, lendOk, lends, lend, wkL, wk, wkR, wkB]) rfl trivial ?_
   cases h3 : vd got with
   | false =>
    rw [if_pos h3] at hl
    rw [hl]
    simp -implicitDefEqProofs only [rX,↓rY,ofConst,cells?,splice,↓reduceIte,Nat.reduceEqDiff,Nat.reduceAdd,buildP,isC,Nat.reduceLeDiff,yC,yB,yA]
    refine ret_data ?_
    simp -implicitDefEqProofs only [rX,↓rY,↓reduceIte,Nat.reduceEqDiff,Nat.reduceAdd,resP,tupV,wfV,wfL,yB,yA]
    simp [Gv, tupV, gvV, gvL, wk, wkL, wkR, wfV, wfL, noC, Chg.enc]
   | true =>
    rw [if_neg (by rw [h3]; simp)] at hl
    have hgd : Vd got := vd_iff.1 h3
    simp -implicitDefEqProofs only [rX,↓rY,ofConst,cells?,splice,↓reduceIte,Nat.reduceEqDiff,Nat.reduceAdd,reduceCtorEq,freshP,ms_len,ms_t,ms_C,yC,yA]
    refine ⟨⟨by omega, by omega⟩, hk, ?_⟩
    rw [hme]
    refine call_is h58 (by simp [lendsOk, lendOk, lends, lend, wkL, wk, wkR, wkB, Mis.enc]) rfl trivial ?_
    have hfa : fAt m (m.fl.findIdx (eqF id)) = m.fl[m.fl.findIdx (eqF id)] := fAt_eq hi
    unfold comeRM comeRW at hl
    rw [hfa] at hl
    generalize m.fl.findIdx (eqF id) = n at *
    have hspi := (hm.f _ (yE hi)).1
    have hsp := vd_vs (vs_one hspi)
    have hfb : ∀ f ∈ m.fl, 0 ≤ f.sp.1 ∧ f.sp.1 < f.sp.2 ∧ f.sp.2 ≤ 1099511627776 := fun f hf => (hm.f f hf).1
    have hll : (lessL m.fl n).length ≤ m.fl.length := by unfold lessL; simp; omega
    simp -implicitDefEqProofs only [rX,↓rY,cells?,↓reduceIte,Nat.reduceEqDiff,Nat.reduceAdd,freshP,litsP,Nat.reduceLT,enS_len,enS_D,ft_len,ft_d1,ms_1,yA,↓frzP_n,↓frzP_c,↓frzQ_s,↓frz1_a,↓aw_frz,get_frzE,frzV,frzL,frzB,Nat.reduceEqDiff]
    refine ⟨⟨by omega, by omega⟩, hi, ?_⟩
    have hspe : V.ro 2 [enS m.fl[n].sp] = spans [m.fl[n].sp] := rfl
    rw [ms_frz, show yD 3 m.enc = m.enc from rfl]
    have hspi' := hspi
    generalize m.fl[n].sp = sp at *
    refine ⟨by simp [Mis.enc], ?_⟩
    refine call_is (ok59 m n hi (by omega)) (by simp [lendsOk, lendOk, lends, lend, wkL, wk, wkR, wkB, Mis.enc]) rfl trivial ?_
    have hlm : ∀ f ∈ lessL m.fl n, 0 ≤ f.sp.1 ∧ f.sp.1 < f.sp.2 ∧ f.sp.2 ≤ 1099511627776 := fun f hf => hfb f (mem_less hf)
    simp -implicitDefEqProofs only [rX,↓rY,cells?,splice,↓reduceIte,Nat.reduceEqDiff,Nat.reduceAdd,reduceCtorEq,ms_len,ms_C,yB,yA,get_frzE,frzV,Nat.reduceEqDiff]
    rw [show yK 3 m.enc = [] from rfl, yI]
    generalize lessL m.fl n = FL at *
    refine call_is (ok60 [sp] got hsp) (by simp [lendsOk, lendOk, lends, lend, wkL, wk, wkR, wkB]) rfl trivial ?_
    have hdh : Vd (meetS [sp] got) := vd_vs (Vs.meet (vs_one hspi))
    generalize meetS [sp] got = here at *
    simp -implicitDefEqProofs only [rX,ofConst,↓reduceIte,Nat.reduceAdd]
    obtain ⟨M, hM⟩ : ∃ M : Mis, M = ⟨m.key, FL, m.wt⟩ := ⟨_, rfl⟩
    rw [← hM]
    have hMw : M.wt = m.wt := by rw [hM]
    refine loopP_ghost (.virt 1 1 (by decide) (.virt 1 2 (by decide) (.nilE 15 4 rfl (.nilE 16 5 rfl (.refl _))))) (fun i : Nat => ⟨[(17, .i i), (16, .sl 5 0 (comeR (m.wt.take i) here).length), (15, .sl 4 0 (comeD (m.wt.take i) here).length), (14, spans here), (13, spans [sp]), (11, .ptr 2 0 0), (8, .ptr 1 0 0), (4, .ptr 0 0 0)], [.var j.enc, .var [.i 0, .nil, .nil, .nil, .nil, .i 0], .var M.enc, .dead, .arr 1 ((comeD (m.wt.take i) here).map encI), .arr 2 ((comeR (m.wt.take i) here).map Wai.enc)], 4⟩) (fun i => i ≤ m.wt.length) (fun i => m.wt.length - i) 0 (by omega) ?_ ?_
    ·simp -implicitDefEqProofs only [rX,↓reduceIte,Nat.reduceEqDiff,reduceCtorEq,leE,leH,leB,leV,leVs,keepP,liveP,wfE,wfB,wfV,wfL,ms_wf,ms_le,yB,yA,yU,comeR,comeD,List.filterMap_nil,Int.natCast_zero,get_frzE,frzV,Nat.reduceEqDiff]
     rfl
    rintro i hi0
    unfold c19l0
    have hRl := comeR_len (wt := m.wt.take i) (here := here)
    have hDl := comeD_len (wt := m.wt.take i) (here := here)
    rw [yV hi0] at hRl hDl
    rcases yL i m.wt.length with hi' | hi'
    ·have hd : decide ((i : Int) < (m.wt.length : Int)) = true := decide_eq_true (by omega)
     have hii : (0 : Int) ≤ i ∧ (i : Int) < m.wt.length := ⟨by omega, by omega⟩
     obtain ⟨s1, s2⟩ := come_step (here := here) hi'
     have hwv := hmw _ (yE hi')
     generalize comeR (m.wt.take i) here = K at *
     generalize comeD (m.wt.take i) here = D at *
     have htK : yD K.length (K.map Wai.enc) = K.map Wai.enc := yH (by simp)
     have htD : yD D.length (D.map encI) = D.map encI := yH (by simp)
     simp -implicitDefEqProofs only [rX,↓rY,↓reduceIte,Nat.reduceEqDiff,Nat.reduceAdd,wt_1,ms_2,yA,hd,hMw]
     refine fun _ => ⟨hii, hi', ?_⟩
     refine call_is (ok48 m.wt[i].need here hwv) (by simp [lendsOk, lendOk, lends, lend, wkL, wk, wkR, wkB, enS]) rfl trivial ?_
     simp -implicitDefEqProofs only [rX,↓rY,ofConst,cells?,splice,↓reduceIte,Nat.reduceEqDiff,Nat.reduceAdd,reduceCtorEq,freshP,buildP,litsP,leE,leH,leB,leV,leVs,keepP,liveP,wfE,wfB,wfV,wfL,killE,killB,kill,kills,St.kill,isD,Nat.reduceLT,Nat.reduceLeDiff,wt_0,ms_2,ms_k,ms_wf,ms_le,yC,yB,yA]
     by_cases hz : (minusS m.wt[i].need here).length = 0
     ·have hzb : (((minusS m.wt[i].need here).length : Int) == 0) = true := by rw [hz]; rfl
      rw [if_pos hz] at s1
      rw [if_pos hz, yI] at s2
      simp -implicitDefEqProofs only [↓rY,hzb,hMw]
      exact fun _ => ⟨hii, hi', by omega, by simp only [lo, Fx.hi]; omega, i + 1, ⟨hi', by omega⟩, ⟨by omega, by rw [s2], by rw [s1, yF]; rfl⟩, by rw [s1, htD, yN]; rfl, by rw [s2]⟩
     ·have hzb : (((minusS m.wt[i].need here).length : Int) == 0) = false := by rw [beq_eq_false_iff_ne]; omega
      rw [if_neg hz, yI] at s1
      rw [if_neg hz] at s2
      simp -implicitDefEqProofs only [rX,↓rY,ofConst,cells?,↓reduceIte,Nat.reduceEqDiff,Nat.reduceAdd,reduceCtorEq,freshP,litsP,leE,leH,leB,leV,leVs,keepP,liveP,wfE,wfB,wfV,wfL,killE,killB,kill,kills,St.kill,isD,Nat.reduceLT,ms_k,ms_wf,ms_le,yB,yA,hzb,hMw,↓op_litsf,↓frzP_n,↓frzP_c,↓frzQ_r]
      exact fun _ => ⟨hii, hi', by omega, by simp only [lo, Fx.hi]; omega, i + 1, ⟨hi', by omega⟩, ⟨by omega, by rw [s2, yF]; rfl, by rw [s1]⟩, by rw [s1], by rw [s2, htK, yN]; rfl⟩
    ·have hd : decide ((i : Int) < (m.wt.length : Int)) = false := decide_eq_false (by omega)
     have hie : i = m.wt.length := by omega
     subst hie
     rw [List.take_length] at hRl hDl ⊢
     have hKs : ∀ w ∈ comeR m.wt here, Vs w.need := fun w hw => by
      obtain ⟨v, hv, _, rfl⟩ := comeR_mem hw
      exact Vs.minus (hm.w v hv).1
     have hKm : ∀ w ∈ comeR m.wt here, Vd w.need := fun w h => vd_vs (hKs w h)
     generalize comeR m.wt here = K at *
     generalize comeD m.wt here = D at *
     have htK : yD K.length (K.map Wai.enc) = K.map Wai.enc := yH (by simp)
     have htD : yD D.length (D.map encI) = D.map encI := yH (by simp)
     rw [hM, hl]
     have hMK : yD 2 (Mis.enc ⟨m.key, FL, m.wt⟩) ++ [V.ro 2 (List.map Wai.enc K)] ++ yK 3 (Mis.enc ⟨m.key, FL, m.wt⟩) = Mis.enc ⟨m.key, FL, K⟩ := rfl
     simp -implicitDefEqProofs only [rX,↓rY,rdK,cells?,splice,↓reduceIte,Nat.reduceEqDiff,Nat.reduceAdd,isC,ms_len,ms_2,yA,hd,↓frzP_n,↓frzP_c,↓frzQ_s,↓frz1_a,↓aw_frz,get_frzE,frzV,frzL,frzB,Nat.reduceEqDiff,htK,ms_frz]
     rw [hMK, show yD 3 (Mis.enc ⟨m.key, FL, K⟩) = Mis.enc ⟨m.key, FL, K⟩ from rfl]
     refine fun _ => ⟨by simp [Mis.enc], ?_⟩
     refine call_is (ok48 [sp] here hsp) (by simp [lendsOk, lendOk, lends, lend, wkL, wk, wkR, wkB]) rfl trivial ?_
     simp -implicitDefEqProofs only [rX,↓reduceIte,Nat.reduceEqDiff,Nat.reduceEqDiff]
     have h61 := ok61 (sv m.key) (fets FL) K (fun w h => (hKm w h).2) (by omega) (fun w h => by have := (hKm w h).len; omega)
     rw [show ofS (nd K) = needed ⟨m.key, FL, K⟩ from rfl] at h61
     refine call_is h61 (by simp [lendsOk, lendOk, lends, lend, wkL, wk, wkR, wkB, Mis.enc]) rfl trivial ?_
     simp -implicitDefEqProofs only [rX,↓reduceIte,Nat.reduceEqDiff,Nat.reduceEqDiff]
     have hVm : Vd (minusS [sp] here) := vd_vs (Vs.minus (vs_one hspi))
     have hVn : Vd (needed ⟨m.key, FL, K⟩) := vd_vs (vs_need hKs)
     have hVe : Vd (meetS (minusS [sp] here) (needed ⟨m.key, FL, K⟩)) := vd_vs (Vs.meet (vs_vd.2 hVm))
     have hel := hVe.len
     refine call_is (ok60 _ (needed ⟨m.key, FL, K⟩) hVm) (by simp [lendsOk, lendOk, lends, lend, wkL, wk, wkR, wkB]) rfl trivial ?_
     generalize meetS (minusS [sp] here) (needed ⟨m.key, FL, K⟩) = e at *
     have hjl := hj.lo
     simp -implicitDefEqProofs only [rX,↓rY,ofConst,cells?,splice,↓reduceIte,Nat.reduceEqDiff,Nat.reduceAdd,reduceCtorEq,buildP,isC,Nat.reduceLeDiff,ms_len,ms_t,yC,yB,yA,get_frzE,frzV,Nat.reduceEqDiff]
     refine fun _ => ⟨by simp only [lo, Fx.hi]; omega, ?_⟩
     cases h4 : decide ((1152921504606846976 : Int) - (e.length : Int) < j.last) with
     | true =>
      rw [if_pos (of_decide_eq_true h4)]
      simp -implicitDefEqProofs only [↓rY]
      refine ret_data ?_
      simp -implicitDefEqProofs only [rX,↓rY,↓reduceIte,Nat.reduceEqDiff,Nat.reduceAdd,resP,tupV,wfV,wfL,yB,yA,get_frzE,frzV,Nat.reduceEqDiff]
      simp [Gv, tupV, gvV, gvL, wk, wkL, wkR, wfV, wfL, noC, Chg.enc]
     | false =>
      have h4' := of_decide_eq_false h4
      rw [if_neg h4']
      simp -implicitDefEqProofs only [↓rY]
      refine call_is (ok49 ⟨m.key, FL, K⟩ e j.last (by omega) hel (by show FL.length ≤ _; omega)) (by simp [lendsOk, lendOk, lends, lend, wkL, wk, wkR, wkB, Mis.enc]) rfl trivial ?_
      have hFL : ((newF j.last e).foldl insF FL).length = FL.length + e.length := by rw [insFs_perm.length_eq, yF, newF_len]
      simp -implicitDefEqProofs only [rX,↓rY,cells?,splice,↓reduceIte,Nat.reduceEqDiff,Nat.reduceAdd,reduceCtorEq,buildP,Nat.reduceLeDiff,ms_len,ms_C,yC,yB,yA,get_frzE,frzV,Nat.reduceEqDiff]
      rw [show ∀ x : Mis, x.enc ++ yK 3 (Mis.enc ⟨m.key, FL, K⟩) = x.enc from fun x => yI _]
      generalize (newF j.last e).foldl insF FL = fl' at *
      generalize newF j.last e = nf at *
      rw [show yD 3 (Mis.enc ⟨m.key, fl', K⟩) = Mis.enc ⟨m.key, fl', K⟩ from rfl]
      refine ⟨by omega, ?_⟩
      refine call_is (ok50 ⟨j.last + e.length, j.l⟩ ⟨m.key, fl', K⟩ (by show j.l.length ≤ _; omega) hKm (by show K.length ≤ _; omega) (by show fl'.length ≤ _; omega)) (by simp [lendsOk, lendOk, lends, lend, wkL, wk, wkR, wkB, Mis.enc, Jns.enc]) rfl trivial ?_
      generalize putP ⟨j.last + e.length, j.l⟩ ⟨m.key, fl', K⟩ = C
      obtain ⟨J, a, b, c, x⟩ := C
      simp -implicitDefEqProofs only [rX,↓rY,ofConst,cells?,splice,↓reduceIte,Nat.reduceEqDiff,Nat.reduceAdd,freshP,resP,tupV,keepP,liveP,wfV,wfL,isC,Nat.reduceLeDiff,yC,yB,yA,Chg.enc,get_frzE,frzV,Nat.reduceEqDiff,retP_eq]
      refine ⟨[.dead, .dead, .dead, .dead, .arr 1 (D.map encI)], ⟨by simp [leH, leB], Nat.zero_le _, by simp, by simp [wfB]⟩, ?_⟩
      simp [Gv, tupV, gvV, gvL, wk, wkL, wkR, wfV, wfL, blk, htD]
end Go.Fx.J
namespace Go.Fx.J
open Go Go.Fx Go.Proofs Go.Fx.R
set_option maxRecDepth 20000
end Go.Fx.J
namespace Go.Fx.J
open Go Go.Fx Go.Proofs Go.Fx.R
set_option maxRecDepth 20000
theorem eqM_pair {l : List Mis} {key : S} (ho : l.Pairwise fun a b => a.key < b.key) : l.Pairwise fun a b => eqM key a = true → eqM key b = false :=
 ho.imp fun {a b} h ha => decide_eq_false fun e => by
  have e1 : a.key = key := of_decide_eq_true ha
  rw [e1, e] at h
  exact s_irr _ h
theorem eqM_lt {key : S} {m : Mis} (h : eqM key m = true) : ltM key m = false := decide_eq_false (by
 have e : m.key = key := of_decide_eq_true h
 rw [e]; exact s_irr _)
theorem putR_in {l : List Mis} {key : S} {m : Mis} (ho : l.Pairwise fun a b => a.key < b.key) (h : l.any (eqM key) = true) (d : Bool) :
  putR (geM key) (eqM key) m d l = if d = true then lessL l (posN (ltM key) l) else l.set (posN (ltM key) l) m := by
 obtain ⟨hk, hkey⟩ := posN_any ho h
 obtain ⟨h1, h2⟩ := putR_at (ge := geM key) (eq := eqM key) (m := m) hk (split_M ho) (fun _ _ => rfl) (eqM_pair ho) (fun _ _ => eqM_lt) (decide_eq_true hkey)
 cases d with
 | true => rw [if_pos rfl]; exact h1
 | false => rw [if_neg (by simp)]; exact h2
theorem put_clean {last : Int} {L : List Mis} {key : S} {fl : List Fet} {wt : List Wai} (ho : L.Pairwise fun a b => a.key < b.key) (h : L.any (eqM key) = true) :
  putP ⟨last, L⟩ ⟨key, fl, wt⟩ = ⟨⟨last, cleanL L (posN (ltM key) L) key fl wt⟩, [], [], cleanO key fl wt, 0⟩ := by
 unfold putP cleanL cleanO
 simp only
 rw [putR_in ho h]
 by_cases hw : wt = []
 ·simp [hw]
 ·simp [hw]
theorem fail_eq {j : Jns} (hj : JOk j) (key : S) (id : Int) : failR j key id = ⟨(failP j key id).1.1, (failP j key id).1.2.1, [], (failP j key id).1.2.2, (failP j key id).2⟩ := by
 unfold failR failP
 cases h1 : j.l.any (eqM key) with
 | false => simp [noC]
 | true =>
  obtain ⟨hk, hkey⟩ := posN_any hj.o h1
  simp only [yM, if_false]
  rw [mAt_eq hk]
  cases h2 : j.l[posN (ltM key) j.l].fl.any (eqF id) with
  | false => simp [noC]
  | true =>
   simp only [yM, if_false]
   unfold failRM failM
   rw [hkey]
   generalize j.l[posN (ltM key) j.l] = m
   generalize m.fl.findIdx (eqF id) = i
   have hp : putP j ⟨key, lessL m.fl i, keptD (goW (fAt m i).sp) m.wt⟩ = _ := put_clean (last := j.last) hj.o h1
   rw [hp]
theorem come_eq {j : Jns} (hj : JOk j) (key : S) (id : Int) (got : List Sp) : (comeC j key id got).j = (comeP j key id got).1.1 ∧ (comeC j key id got).who = (comeP j key id got).1.2.1 ∧ (comeC j key id got).new = (comeP j key id got).1.2.2 ∧ (comeC j key id got).e = (comeP j key id got).2 := by
 unfold comeC comeP
 cases h1 : j.l.any (eqM key) with
 | false => simp [noC]
 | true =>
  obtain ⟨hk, hkey⟩ := posN_any hj.o h1
  simp only [yM, if_false]
  rw [mAt_eq hk]
  cases h2 : j.l[posN (ltM key) j.l].fl.any (eqF id) with
  | false => simp [noC]
  | true =>
   simp only [yM, if_false]
   cases h3 : vd got with
   | false => simp [noC]
   | true =>
    simp only [yM, if_false]
    generalize j.l[posN (ltM key) j.l].fl.findIdx (eqF id) = i
    have hw : comeRW j.l[posN (ltM key) j.l] i got = wantP key j.l[posN (ltM key) j.l] i got := by unfold comeRW wantP hereP; rw [hkey]
    unfold comeRM comeM
    rw [hw]
    split
    ·simp [noC]
    ·rw [hkey, put_clean (last := j.last + (wantP key j.l[posN (ltM key) j.l] i got).length) hj.o h1]
     exact ⟨rfl, rfl, rfl, rfl⟩
end Go.Fx.J
namespace Go.Fx.R
theorem cut1_len {s t : Sp} : (cut1 s t).length ≤ 2 ∧ ((t.1 < s.1 ∧ s.2 < t.2) ∨ (cut1 s t).length ≤ 1) ∧ (s.1 < s.2 → s.2 ≤ t.1 → (cut1 s t).length ≤ 1) := by
 unfold cut1
 rw [yF]
 refine ⟨?_, ?_, fun h1 h2 => ?_⟩
 ·split <;> split <;> simp
 ·split <;> split <;> simp <;> omega
 ·split <;> split <;> simp <;> omega
theorem flat_one {s : Sp} (hs : s.1 < s.2) : ∀ {l : List Sp}, (∀ t ∈ l, s.2 ≤ t.1) → (l.flatMap (cut1 s)).length ≤ l.length
 | [], _ => by simp
 | t :: l, h => by
  rw [List.flatMap_cons, yF, yJ]
  have := flat_one hs fun u hu => h u (yW _ hu)
  have := (cut1_len (s := s) (t := t)).2.2 hs (h t List.mem_cons_self)
  omega
theorem cut_len {s : Sp} : ∀ {l : List Sp}, Sep l → (cutS l s).length ≤ l.length + 1 := by
 intro l hl
 unfold cutS
 split
 ·omega
 ·rename_i hs
  have hs : s.1 < s.2 := by omega
  induction l with
  | nil => simp
  | cons t l ih =>
   obtain ⟨h1, h2, h3⟩ := sep_cons.1 hl
   rw [List.flatMap_cons, yF, yJ]
   obtain ⟨c1, c2, _⟩ := cut1_len (s := s) (t := t)
   rcases c2 with c2 | c2
   ·have := flat_one hs (l := l) fun u hu => by have := h2 u hu; omega
    omega
   ·have := ih h3
    omega
theorem minus_len : ∀ {b a : List Sp}, Sep a → (minusS a b).length ≤ a.length + b.length
 | [], a, _ => by simp [minusS]
 | s :: b, a, h => by
  have h1 := cut_len (s := s) h
  have h2 := minus_len (b := b) (sep_cutS (s := s) h)
  show (minusS (cutS a s) b).length ≤ _
  rw [yJ]
  omega
theorem meet_len {a b : List Sp} (h : Sep a) : (meetS a b).length ≤ 2 * a.length + b.length := by
 unfold meetS
 have h1 := minus_len (b := b) h
 have h2 := minus_len (b := minusS a b) h
 omega
theorem addStep_len : ∀ {l : List Sp} {o : List Sp} {b : Bool} {s : Sp}, (addEnd (l.foldl addStep (o, b, s))).length ≤ l.length + o.length + (if b = true then 0 else 1)
 | [], o, b, s => by
  cases b <;> simp [addEnd]
 | t :: l, o, b, s => by
  rw [List.foldl_cons, yJ]
  unfold addStep
  split
  ·refine yG (addStep_len (l := l)) ?_
   simp; omega
  ·split
   ·refine yG (addStep_len (l := l)) ?_
    cases b <;> simp <;> omega
   ·refine yG (addStep_len (l := l)) ?_
    simp
theorem add_len {l : List Sp} {s : Sp} : (addS l s).length ≤ l.length + 1 := by
 unfold addS
 split
 ·omega
 ·have := addStep_len (l := l) (o := []) (b := false) (s := s)
  simpa using this
theorem both_len : ∀ {b a : List Sp}, (bothS a b).length ≤ a.length + b.length
 | [], a => by simp [bothS]
 | s :: b, a => by
  have h1 := add_len (l := a) (s := s)
  have h2 := both_len (b := b) (a := addS a s)
  show (bothS (addS a s) b).length ≤ _
  rw [yJ]
  omega
theorem ofS_len {l : List Sp} : (ofS l).length ≤ l.length := by
 have := both_len (a := []) (b := l)
 rw [List.length_nil, Nat.zero_add] at this
 exact this
end Go.Fx.R
namespace Go.Fx.J
open Go Go.Fx Go.Proofs Go.Fx.R
set_option maxRecDepth 20000
theorem mem_set' {L : List Mis} {k : Nat} {x m : Mis} (h : m ∈ L.set k x) : m = x ∨ m ∈ L := by
 rcases List.mem_or_eq_of_mem_set h with h | h
 ·exact .inr h
 ·exact .inl h
theorem clean_few {L : List Mis} {k : Nat} {key : S} {fl : List Fet} {wt : List Wai} {N : Nat} (hL : ∀ m ∈ L, m.fl.length ≤ N) (hf : fl.length ≤ N) : ∀ m ∈ cleanL L k key fl wt, m.fl.length ≤ N := by
 intro m hm
 unfold cleanL at hm
 split at hm
 ·exact hL m (mem_less hm)
 ·rcases mem_set' hm with rfl | hm
  ·exact yG keptD_len hf
  ·exact hL m hm
theorem clean_n {L : List Mis} {k : Nat} {key : S} {fl : List Fet} {wt : List Wai} : (cleanL L k key fl wt).length ≤ L.length := by
 unfold cleanL
 split
 ·unfold lessL; simp; omega
 ·simp
theorem less_n {α : Type} {l : List α} {k : Nat} : (lessL l k).length ≤ l.length := by unfold lessL; simp; omega
theorem flat_len {α : Type} {N : Nat} : ∀ {l : List (List α)}, (∀ x ∈ l, x.length ≤ N) → l.flatten.length ≤ N * l.length
 | [], _ => by simp
 | x :: l, h => by
  have := flat_len fun y hy => h y (yW _ hy)
  have := h x List.mem_cons_self
  rw [List.flatten_cons, yF, yJ, Nat.mul_add]
  omega
theorem mAt_fl {j : Jns} {k N : Nat} (h : ∀ m ∈ j.l, m.fl.length ≤ N) : (mAt j k).fl.length ≤ N := by
 unfold mAt
 rw [yQ]
 rcases yL k j.l.length with hk | hk
 ·rw [yS hk]
  exact h _ (yE hk)
 ·rw [yT hk]; simp
theorem few_fail {j : Jns} (h : Few1 j) (key : S) (id : Int) : Few1 (failP j key id).1.1 := by
 unfold failP
 split
 ·exact h
 ·split
  ·exact h
  ·exact ⟨yG clean_n h.n, clean_few h.f (yG less_n (mAt_fl h.f))⟩
theorem few_come {j : Jns} (h : Few1 j) (hf : ∀ m ∈ j.l, m.fl.length ≤ 12) (key : S) (id : Int) (got : List Sp) (hg : got.length ≤ 8) (hw : ∀ m ∈ j.l, m.wt.length ≤ 12 ∧ ∀ w ∈ m.wt, Sep w.need ∧ w.need.length ≤ 8) (hs : ∀ m ∈ j.l, ∀ f ∈ m.fl, f.sp.1 < f.sp.2) : Few1 (comeP j key id got).1.1 := by
 unfold comeP
 split
 ·exact h
 ·split
  ·exact h
  ·split
   ·exact h
   ·rename_i h1 h2 h3
    unfold comeM
    split
    ·exact h
    ·have h2' : (mAt j (posN (ltM key) j.l)).fl.any (eqF id) = true := by simpa using h2
     have hml := mAt_fl (k := posN (ltM key) j.l) hf
     have hms : ∀ f ∈ (mAt j (posN (ltM key) j.l)).fl, f.sp.1 < f.sp.2 := by
      unfold mAt
      rw [yQ]
      rcases yL (posN (ltM key) j.l) j.l.length with hk | hk
      ·rw [yS hk]
       exact hs _ (yE hk)
      ·rw [yT hk]; intro f hf; cases hf
     have hmw : (mAt j (posN (ltM key) j.l)).wt.length ≤ 12 ∧ ∀ w ∈ (mAt j (posN (ltM key) j.l)).wt, Sep w.need ∧ w.need.length ≤ 8 := by
      unfold mAt
      rw [yQ]
      rcases yL (posN (ltM key) j.l) j.l.length with hk | hk
      ·rw [yS hk]
       exact hw _ (yE hk)
      ·rw [yT hk]
       exact ⟨by simp, fun w h => by cases h⟩
     generalize mAt j (posN (ltM key) j.l) = m at *
     have hi : m.fl.findIdx (eqF id) < m.fl.length := by
      obtain ⟨f, hf, he⟩ := yO.1 h2'
      exact yP.2 ⟨f, hf, he⟩
     generalize m.fl.findIdx (eqF id) = i at *
     have hsp : Sep [(fAt m i).sp] := by
      rw [fAt_eq hi]
      exact sep_one.2 (hms _ (yE hi))
     have hwl : (wantP key m i got).length ≤ 1000 := by
      unfold wantP hereP
      have a1 := meet_len (b := got) hsp
      rw [yX] at a1
      generalize meetS [(fAt m i).sp] got = here at *
      have a2 := minus_len (b := here) hsp
      rw [yX] at a2
      have a3 := meet_len (b := needed ⟨key, lessL m.fl i, comeR m.wt here⟩) (sep_minusS (b := here) hsp)
      have a4 : (needed ⟨key, lessL m.fl i, comeR m.wt here⟩).length ≤ 18 * m.wt.length := by
       refine yG ofS_len ?_
       refine yG (flat_len (N := 18) fun l hl => ?_) ?_
       ·obtain ⟨w, hw, rfl⟩ := List.mem_map.1 hl
        obtain ⟨v, hv, _, rfl⟩ := comeR_mem hw
        obtain ⟨b1, b2⟩ := hmw.2 v hv
        have := minus_len (b := here) b1
        show (minusS v.need here).length ≤ 18
        omega
       ·rw [List.length_map]
        exact Nat.mul_le_mul_left _ comeR_len
      omega
     refine ⟨yG clean_n h.n, clean_few h.f ?_⟩
     rw [insFs_perm.length_eq, yF, newF_len]
     have := less_n (l := m.fl) (k := i)
     omega
end Go.Fx.J
namespace Go.Fx.J
open Go Go.Fx Go.Proofs Go.Fx.R
set_option maxRecDepth 20000
theorem ok4 (j : Jns) (key : S) (id : Int) (got : List Sp) : Ok 4 [.agg j.enc, sv key, .i id, spans got] (Is (.b true)) := by
 refine ok_of lw4 (by simp) ?_
 unfold c4
 simp -implicitDefEqProofs only [rX,↓rY,ofConst,cells?,↓reduceIte,Nat.reduceEqDiff,Nat.reduceAdd,freshP,cxN,yB,yA,args0]
 refine call_is (ok8 j) (by simp [lendsOk, lendOk, lends, lend, wkL, wk, wkR, wkB]) rfl trivial ?_
 cases h0 : fewB j && validB j with
 | false =>
  simp -implicitDefEqProofs only [rX,↓rY,ofConst,↓reduceIte,Nat.reduceEqDiff]
  refine call_is ok9 (by simp [lendsOk, lends, wkL]) rfl trivial ?_
  simp -implicitDefEqProofs only [rX,↓reduceIte,resP,tupV,wfV]
 | true =>
  simp -implicitDefEqProofs only [rX,↓rY,ofConst,↓reduceIte,Nat.reduceEqDiff,Nat.reduceAdd,reduceCtorEq,sb_size,yB,yA]
  cases h1 : decide ((100 : Int) < (key.length : Int)) with
  | true =>
   simp -implicitDefEqProofs only [↓rY]
   refine call_is ok9 (by simp [lendsOk, lends, wkL]) rfl trivial ?_
   simp -implicitDefEqProofs only [rX,↓reduceIte,resP,tupV,wfV]
  | false =>
   simp -implicitDefEqProofs only [↓rY]
   intro _
   cases h2 : decide ((8 : Int) < (got.length : Int)) with
   | true =>
    simp -implicitDefEqProofs only [↓rY]
    refine call_is ok9 (by simp [lendsOk, lends, wkL]) rfl trivial ?_
    simp -implicitDefEqProofs only [rX,↓reduceIte,resP,tupV,wfV]
   | false =>
    have h1' := of_decide_eq_false h1
    have h2' := of_decide_eq_false h2
    rw [Bool.and_eq_true] at h0
    have hJ := valid_iff.1 h0.2
    have hb := fewB_1 h0.1
    have hn := hJ.n
    have hfl : ∀ m ∈ j.l, m.fl.length ≤ 1099511627776 := fun m hm => by have := (hb.2 m hm).2.1; omega
    have hfl6 : ∀ m ∈ j.l, m.fl.length ≤ 1000000 := fun m hm => by have := (hb.2 m hm).2.1; omega
    have hf12 : ∀ m ∈ j.l, m.fl.length ≤ 12 := fun m hm => (hb.2 m hm).2.1
    have hF1 := few1_of h0.1
    have hA := come_jok hJ key id got
    have hA1 := few_come hF1 hf12 key id got (by omega) (fun m hm => ⟨(hb.2 m hm).1, fun w hw => ⟨((hJ.m m hm).w w hw).1.1, (hb.2 m hm).2.2.2 w hw⟩⟩) fun m hm f hf => ((hJ.m m hm).f f hf).1.2.1
    have hB := fail_jok hJ key id
    have hB1 := few_fail hF1 key id
    obtain ⟨e1, e2, e3, e5⟩ := come_eq hJ key id got
    have e4 := fail_eq hJ key id
    have hvA := valid_iff.2 hA
    have hvB := valid_iff.2 hB
    simp -implicitDefEqProofs only [↓rY]
    refine call_is (ok18 j key id got hJ hfl) (by simp [lendsOk, lendOk, lends, lend, wkL, wk, wkR, wkB]) rfl trivial ?_
    generalize comeP j key id got = ra at *
    simp -implicitDefEqProofs only [rX,↓rY,ofConst,cells?,splice,↓reduceIte,Nat.reduceEqDiff,Nat.reduceAdd,reduceCtorEq,freshP,isC,yC,yB,yA]
    refine call_is (ok19 j key id got hJ hfl6) (by simp [lendsOk, lendOk, lends, lend, wkL, wk, wkR, wkB]) rfl trivial ?_
    generalize comeC j key id got = ca at *
    obtain ⟨J, a, b, c, x⟩ := ca
    simp only at e1 e2 e3 e5
    subst e1 e2 e3 e5
    obtain ⟨⟨J, a, b⟩, x⟩ := ra
    simp only at hA hA1 hvA
    simp -implicitDefEqProofs only [rX,↓rY,ofConst,cells?,splice,↓reduceIte,Nat.reduceEqDiff,Nat.reduceAdd,freshP,resP,tupV,wfV,isC,Nat.reduceLeDiff,yC,yB,yA,Chg.enc,bne_self_eq_false]
    refine call_is (ok12e J) (by simp [lendsOk, lendOk, lends, lend, wkL, wk, wkR, wkB]) rfl trivial ?_
    simp -implicitDefEqProofs only [rX,↓rY,↓reduceIte,Nat.reduceEqDiff]
    refine call_is (ok17e a) (by simp [lendsOk, lendOk, lends, lend, wkL, wk, wkR, wkB]) rfl trivial ?_
    simp -implicitDefEqProofs only [rX,↓rY,↓reduceIte,Nat.reduceEqDiff]
    refine call_is (ok13e b) (by simp [lendsOk, lendOk, lends, lend, wkL, wk, wkR, wkB]) rfl trivial ?_
    simp -implicitDefEqProofs only [rX,↓rY,↓reduceIte,Nat.reduceEqDiff,Nat.reduceAdd,yB,yA]
    refine call_is (ok14 J hA1) (by simp [lendsOk, lendOk, lends, lend, wkL, wk, wkR, wkB]) rfl trivial ?_
    simp -implicitDefEqProofs only [rX,↓rY,↓reduceIte,Nat.reduceEqDiff,Nat.reduceAdd,reduceCtorEq,yB,yA,hvA]
    refine call_is (ok20 j key id hJ hfl) (by simp [lendsOk, lendOk, lends, lend, wkL, wk, wkR, wkB]) rfl trivial ?_
    simp -implicitDefEqProofs only [rX,↓rY,ofConst,cells?,splice,↓reduceIte,Nat.reduceEqDiff,Nat.reduceAdd,reduceCtorEq,freshP,isC,yC,yB,yA]
    refine call_is (ok21 j key id hJ hfl6) (by simp [lendsOk, lendOk, lends, lend, wkL, wk, wkR, wkB]) rfl trivial ?_
    rw [e4]
    generalize failP j key id = rb at *
    obtain ⟨⟨K, g, d⟩, y⟩ := rb
    simp only at hB hB1 hvB
    simp -implicitDefEqProofs only [rX,↓rY,ofConst,cells?,splice,↓reduceIte,Nat.reduceEqDiff,Nat.reduceAdd,freshP,isC,yC,yA,Chg.enc]
    refine call_is ok9 (by simp [lendsOk, lends, wkL]) rfl trivial ?_
    simp -implicitDefEqProofs only [rX,↓rY,↓reduceIte,Nat.reduceEqDiff,Nat.reduceAdd,Nat.reduceLeDiff,yB,yA,beq_self_eq_true]
    refine call_is (ok12e K) (by simp [lendsOk, lendOk, lends, lend, wkL, wk, wkR, wkB]) rfl trivial ?_
    simp -implicitDefEqProofs only [rX,↓rY,↓reduceIte,Nat.reduceEqDiff]
    refine call_is (ok17e g) (by simp [lendsOk, lendOk, lends, lend, wkL, wk, wkR, wkB]) rfl trivial ?_
    simp -implicitDefEqProofs only [rX,↓rY,↓reduceIte,Nat.reduceEqDiff]
    refine call_is (ok17e d) (by simp [lendsOk, lendOk, lends, lend, wkL, wk, wkR, wkB]) rfl trivial ?_
    simp -implicitDefEqProofs only [rX,↓rY,↓reduceIte,Nat.reduceEqDiff,Nat.reduceAdd,yB,yA]
    refine call_is (ok14 K hB1) (by simp [lendsOk, lendOk, lends, lend, wkL, wk, wkR, wkB]) rfl trivial ?_
    simp -implicitDefEqProofs only [rX,↓rY,↓reduceIte,Nat.reduceEqDiff,resP,tupV,wfV,hvB]
end Go.Fx.J
namespace Go.Fx.J
open Go Go.Fx Go.Proofs Go.Fx.R
theorem fn4 : ∀ xs, WfA [tJns, .str, .int .i64, tSps] xs → Fn Tryz.prog 4 xs [] [] (fun r _ => r = .b true) := by
 intro xs h
 obtain ⟨x1, _, rfl, h1, x2, _, rfl, h2, x3, _, rfl, h3, x4, _, rfl, h4, h⟩ := h
 obtain rfl : _ = [] := h
 obtain ⟨j, rfl⟩ := wv_jns h1
 obtain ⟨s, rfl⟩ := wv_str h2
 obtain ⟨n, rfl⟩ := wv_int h3
 obtain ⟨l, rfl⟩ := wv_sps h4
 exact fn_of (ok4 j s n l)
end Go.Fx.J
