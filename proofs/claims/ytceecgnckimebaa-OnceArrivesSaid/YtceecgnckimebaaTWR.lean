import Derived.Test.YtceecgnckimebaaT69
import Derived.Test.YtceecgnckimebaaPCode
set_option linter.unusedVariables false
set_option linter.unusedSimpArgs false
set_option linter.unusedSectionVars false
open Bool renaming true_and → yA
open Int renaming natCast_zero → yB
open Nat renaming lt_or_ge → yC, le_trans → yG
open List renaming take_succ_cons → yD, range → yE, mem_of_mem_take → yF, getElem_mem → yH, drop_succ_cons → yI, foldl_nil → yJ, mem_cons_of_mem → yK, take_succ_eq_append_getElem → yL
namespace Go.Fx.P
open Go Go.Fx Go.Proofs Go.Fx.R
set_option maxRecDepth 20000
theorem hW_hear {p : Purse} (hr : Rt p) (L : Ltr) : Ok 8 [.agg p.enc, .agg L.enc] (Is (.tup [.agg (hearA p L).1.enc, ltrs (ansL p L (hearA p L).2)])) := ok8 p L hr.l.v hr.s.v hr.mh hr.ms (yG hr.n (by omega))
theorem wnt_run {n : Nat} (hn : n ≤ 255) {acts : List Act} (ha : ∀ a ∈ acts, a.Ok) : ∀ k, k ≤ acts.length → Wnt (runW n acts k).all
 | 0, _ => wnt_begin hn
 | k + 1, h => by
  have ih := wnt_run hn ha k (by omega)
  have hr := run_ok hn ha k (by omega)
  rw [runW_s (by omega)]
  exact wnt_do (ha _ (yH (show k < acts.length by omega))) hr.i ih
theorem rd_to {n : Nat} {spent : List Int} {W : List Ltr} {all : List Purse} (h : Rd n spent W all) {L : Ltr} (hL : L ∈ W) : ∃ j : Nat, j < all.length ∧ L.to = j := by
 obtain ⟨_, _, j, _, hj, _, _, h2, _⟩ := h.i.lt L hL
 exact ⟨j, hj, h2⟩
theorem rd_pre {n : Nat} {spent : List Int} {W : List Ltr} {k : Nat} : ∀ (l : List Ltr) {all : List Purse}, Rd n spent W all → (∀ L ∈ l, L ∈ W ∧ L.frm = k) → k < all.length → Rd n spent W (l.foldl (ltrW k) all)
 | [], _, h, _, _ => h
 | L :: l, all, h, hl, hk => by
  obtain ⟨h1, h2⟩ := hl L List.mem_cons_self
  obtain ⟨j, hj, h3⟩ := rd_to h h1
  rw [List.foldl_cons]
  have hr := rd_ltr2 h h1 hk hj h2 h3
  exact rd_pre l hr (fun M hM => hl M (yK _ hM)) (by rw [hr.i.len]; rw [h.i.len] at hk; exact hk)
theorem lets_frm {p : Purse} : ∀ L ∈ lettersP p, L.frm = p.me := by
 intro L hL
 unfold lettersP at hL
 obtain ⟨g, _, rfl⟩ := List.mem_map.1 hL
 rfl
theorem fold_tk {α β : Type} {f : β → α → β} {b : β} {l : List α} {k : Nat} (h : k < l.length) : (l.take (k + 1)).foldl f b = f ((l.take k).foldl f b) l[k] := by
 rw [yL h, List.foldl_append]; rfl
theorem sumT_app {a b : List Purse} : sumT (a ++ b) = sumT a + sumT b := by unfold sumT; rw [List.map_append, List.sum_append]
theorem sumT_s {l : List Purse} {k : Nat} (h : k < l.length) : sumT (l.take (k + 1)) = sumT (l.take k) + (tot l[k].left + tot l[k].spent) := by
 rw [yL h, sumT_app]
 simp [sumT, purT]
theorem sum_bd : ∀ {l : List Purse}, (∀ p ∈ l, Rt p) → 0 ≤ sumT l ∧ sumT l ≤ 2199023255552 * l.length
 | [], _ => by simp [sumT]
 | p :: l, h => by
  have ih := sum_bd (l := l) fun q hq => h q (by simp [hq])
  have hp := h p (by simp)
  have a := hp.l.v.tot
  have b := hp.s.v.tot
  have e : sumT (p :: l) = tot p.left + tot p.spent + sumT l := by simp [sumT, purT]
  rw [e, List.length_cons]
  omega
set_option maxHeartbeats 1000000 in
theorem ok3 (n : Nat) (hn : n ≤ 255) (acts : List Act) (ha : ∀ a ∈ acts, a.Ok) : Ok 3 [u8 n, .ro 4 (acts.map Act.enc)] (Is (.b true)) := by
 refine ok_of lw3 (by simp) ?_
 unfold c3
 simp -implicitDefEqProofs only [rX,↓rY,ofConst,↓reduceIte,Nat.reduceEqDiff,reduceCtorEq,cxN,yA,args0]
 intro hml
 by_cases hc : acts.length ≤ 300
 rotate_left
 ·have hd : decide ((300 : Int) < (acts.length : Int)) = true := decide_eq_true (by omega)
  simp -implicitDefEqProofs only [↓rY,hd]
  refine call_is ok4 (by simp [lendsOk, lends, wkL]) rfl trivial ?_
  simp -implicitDefEqProofs only [rX,↓reduceIte,resP,tupV,wfV]
 have hd : decide ((300 : Int) < (acts.length : Int)) = false := decide_eq_false (by omega)
 simp -implicitDefEqProofs only [↓rY,hd]
 refine ⟨by simp only [lo, hi]; omega, ?_⟩
 refine call_isA [.i n] (.agg [.sl 2 0 4, .nil, .nil]) (.agg [.sl 3 0 4, .nil, .nil]) [.dead, .dead, .arr 22 ((begL n).map Purse.enc)] [.dead, .dead, .arr 22 ((begL n).map Purse.enc)] (ok5 n hn) (by simp [lendsOk, lendOk, lends, lend, wkL, wk, wkR]) rfl rfl trivial ?_
 simp -implicitDefEqProofs only [rX,↓rY,ofConst,cells?,splice,↓reduceIte,Nat.reduceEqDiff,Nat.reduceAdd,freshP,isC,yI,yA]
 refine loopP_ghost (.mv 1 3 (.arr 22 ((begL n).map Purse.enc)) (by decide) rfl rfl (by simp) (.virtAt 2 21 (by decide) rfl (.virtAt 3 1 (by decide) rfl (.nilB 0 [.sl 1 0 4, .nil, .nil] [.sl 1 0 4, .sl 2 0 0, .sl 3 0 0] rfl ⟨rfl, fun i x y h1 h2 => by
  match i with
  | 0 => simp at h1 h2; subst h1 h2; exact .inl rfl
  | 1 => simp at h1 h2; subst h1 h2; exact .inr ⟨rfl, 2, rfl⟩
  | 2 => simp at h1 h2; subst h1 h2; exact .inr ⟨rfl, 3, rfl⟩
  | i + 3 => simp at h1⟩ (.refl _))))) (fun k : Nat => ⟨[(6, .i k), (5, .ptr 0 0 0), (4, .b false), (0, u8 n), (1, .ro 4 (acts.map Act.enc))], (runW n acts k).h, 4⟩) (fun k => k ≤ acts.length) (fun k => acts.length - k) 0 (by omega) ?_ ?_
 ·simp -implicitDefEqProofs only [rX,↓reduceIte,Nat.reduceEqDiff,reduceCtorEq,leE,leH,leB,leV,leVs,keepP,liveP,wfE,wfB,wfV,wfL,yB,runW_0,Wld.h,hW,mvE,mvV,mvL,mvB]
  rfl
 rintro k hk
 have hR := run_ok hn ha k hk
 unfold c3l0
 rcases yC k acts.length with hk' | hk'
 ·have h1 : decide ((k : Int) < (acts.length : Int)) = true := decide_eq_true (by omega)
  have hkk : (0 : Int) ≤ k ∧ (k : Int) < acts.length := ⟨by omega, by omega⟩
  have hak := ha _ (yH hk')
  have h24 := ok6 (runW n acts k) acts[k] hak hR.i (by have := hR.wl; omega) (by have := hR.sl; omega)
  rw [← runW_s hk'] at h24
  generalize runW n acts k = w at h24 ⊢
  simp -implicitDefEqProofs only [rX,↓rY,↓reduceIte,Nat.reduceEqDiff,Nat.reduceAdd,reduceCtorEq,yD,yA,h1,Wld.h,hW]
  refine fun _ => ⟨hkk, hk', ?_⟩
  generalize hw' : runW n acts (k + 1) = w' at h24 ⊢
  refine call_isMA [0, 1, 2, 3] [2, 3] [2, 3] [.ptr 0 0 0, .agg acts[k].enc] (.tup []) (.tup []) w.h w'.h w'.h _ h24 (by simp) (by simp) rfl (by simp [lendsOk, lendOk, lends, lend, wkL, wk, wkR, pos]) rfl rfl rfl trivial ?_
  simp -implicitDefEqProofs only [rX,↓rY,ofConst,↓reduceIte,Nat.reduceEqDiff,Nat.reduceAdd,reduceCtorEq,leE,leH,leB,leV,leVs,keepP,liveP,wfE,wfB,wfV,wfL,killE,kill,kills,St.kill,yA,Wld.h,hW]
  exact ⟨by simp only [lo, hi]; omega, k + 1, ⟨by omega, by omega⟩, by simp, by rw [hw']; exact ⟨⟨rfl, rfl, rfl⟩, rfl, rfl, rfl⟩⟩
 obtain rfl : k = acts.length := by omega
 have h1 : decide ((acts.length : Int) < (acts.length : Int)) = false := decide_eq_false (by omega)
 have hw := wnt_run hn ha _ hk
 generalize runW n acts acts.length = w at hR hw ⊢
 have hJ : Rd n w.spent [] w.all := ⟨hR.i.way (fun L hL => by cases hL), hw⟩
 simp -implicitDefEqProofs only [rX,↓rY,ofConst,↓reduceIte,Nat.reduceEqDiff,Nat.reduceAdd,reduceCtorEq,yA,h1,Wld.h,hW]
 refine fun _ => ?_
 refine loopP_intro (fun r : Nat => ⟨[(7, .i r), (5, .ptr 0 0 0), (4, .b false), (0, u8 n)], hW (rdsW w.all r) w.way w.spent, 4⟩) (fun r => r ≤ 64) (fun r => 64 - r) 0 (by omega) ?_ ?_
 ·simp -implicitDefEqProofs only [rX,↓reduceIte,Nat.reduceEqDiff,reduceCtorEq,leE,leH,leB,leV,leVs,keepP,liveP,wfE,wfB,wfV,wfL,yB,hW,rdsW]
 rintro r hr
 unfold c3l1
 rcases yC r 64 with hr' | hr'
 ·have h1 : decide ((r : Int) < 64) = true := decide_eq_true (by omega)
  have hJr := (rds_ok hn hJ r).1
  generalize hA : rdsW w.all r = A at hJr ⊢
  simp -implicitDefEqProofs only [rX,↓rY,ofConst,↓reduceIte,Nat.reduceAdd,yA,h1,hW]
  refine loopP_intro (fun k : Nat => ⟨[(8, .i k), (7, .i r), (5, .ptr 0 0 0), (4, .b false), (0, u8 n)], hW ((yE k).foldl parW A) w.way w.spent, 4⟩) (fun k => k ≤ 4) (fun k => 4 - k) 0 (by omega) ?_ ?_
  ·simp -implicitDefEqProofs only [rX,↓reduceIte,Nat.reduceEqDiff,reduceCtorEq,leE,leH,leB,leV,leVs,keepP,liveP,wfE,wfB,wfV,wfL,yB,hW,List.range_zero,yJ]
  rintro k hk
  unfold c3l2
  rcases yC k 4 with hk' | hk'
  ·have h1 : decide ((k : Int) < 4) = true := decide_eq_true (by omega)
   have hJk := (rd_fold hn hJr k hk).1
   have hs : (yE (k + 1)).foldl parW A = parW ((yE k).foldl parW A) k := by rw [List.range_succ, List.foldl_append]; rfl
   generalize (yE k).foldl parW A = B at hJk hs ⊢
   have hkl : k < B.length := by rw [hJk.i.len]; omega
   have hkk : (0 : Int) ≤ k ∧ (k : Int) < B.length := ⟨by omega, by omega⟩
   obtain ⟨hrt, hid, hme⟩ := hJk.i.rt k hkl
   simp -implicitDefEqProofs only [rX,↓rY,ofConst,↓reduceIte,Nat.reduceEqDiff,arrSz,Nat.reduceAdd,reduceCtorEq,leE,leH,leB,leV,leVs,keepP,liveP,wfE,wfB,wfV,wfL,yD,yA,h1,hW]
   refine ⟨hkk, hkl, ?_⟩
   refine call_is (ok7 B[k] (yG hrt.n (by omega)) fun g hg => yG (hrt.uv g hg).n (by omega)) (by simp [lendsOk, lendOk, lends, lend, wkL, wk, wkR]) rfl trivial ?_
   simp -implicitDefEqProofs only [rX,ofConst,↓reduceIte,Nat.reduceAdd]
   have hW0 : Rd n w.spent (lettersP B[k]) B := ⟨inv_send hJk.i hkl, hJk.w⟩
   have hfr : ∀ L ∈ lettersP B[k], L.frm = k := fun L hL => (lets_frm L hL).trans hme
   have hpar : parW B k = (lettersP B[k]).foldl (ltrW k) B := by unfold parW; rw [pk_eq hkl]
   rw [hpar] at hs
   generalize lettersP B[k] = W at hW0 hfr hs ⊢
   refine loopP_intro (fun i : Nat => ⟨[(10, .i i), (9, ltrs W), (8, .i k), (7, .i r), (5, .ptr 0 0 0), (4, .b false), (0, u8 n)], hW ((W.take i).foldl (ltrW k) B) w.way w.spent, 4⟩) (fun i => i ≤ W.length) (fun i => W.length - i) 0 (by omega) ?_ ?_
   ·simp -implicitDefEqProofs only [rX,↓reduceIte,Nat.reduceEqDiff,reduceCtorEq,leE,leH,leB,leV,leVs,keepP,liveP,wfE,wfB,wfV,wfL,yB,hW,yJ]
   rintro i hi
   unfold c3l3
   rcases yC i W.length with hi' | hi'
   ·have h1 : decide ((i : Int) < (W.length : Int)) = true := decide_eq_true (by omega)
    have hii : (0 : Int) ≤ i ∧ (i : Int) < W.length := ⟨by omega, by omega⟩
    have hRi := rd_pre (W.take i) hW0 (fun L hL => ⟨yF hL, hfr L (yF hL)⟩) hkl
    have hsi := fold_tk (f := ltrW k) (b := B) hi'
    generalize (W.take i).foldl (ltrW k) B = D at hRi hsi ⊢
    have hLW := yH hi'
    obtain ⟨j, hj, hto⟩ := rd_to hRi hLW
    have hjj : (0 : Int) ≤ j ∧ (j : Int) < D.length := ⟨by omega, by omega⟩
    have hkD : k < D.length := by rw [hRi.i.len]; omega
    obtain ⟨hrj, _⟩ := hRi.i.rt j hj
    have h8 := hW_hear hrj W[i]
    have hR2 := rd_ltr hRi hLW hkD hj (hfr _ hLW) hto
    have hjn : W[i].to.toNat = j := by rw [hto]; exact Int.toNat_natCast j
    have hlt : ltrW k D W[i] = (ansL D[j] W[i] (hearA D[j] W[i]).2).foldl (ackW k) (D.set j (hearA D[j] W[i]).1) := by unfold ltrW; rw [hjn, pk_eq hj]
    have hto2 : ∀ a ∈ ansL D[j] W[i] (hearA D[j] W[i]).2, a.to = k := fun a ha => (ans_to a ha).trans (hfr _ hLW)
    rw [pk_eq hj] at hR2
    have hset : ∀ q : Purse, (D.map Purse.enc).set j [u8 q.id.a0, u8 q.id.a1, u8 q.id.a2, u8 q.id.a3, u8 q.id.a4, u8 q.id.a5, u8 q.id.a6, u8 q.id.a7, u8 q.id.a8, u8 q.id.a9, u8 q.id.a10, u8 q.id.a11, u8 q.id.a12, u8 q.id.a13, u8 q.id.a14, u8 q.id.a15, .i q.me, spans q.left, spans q.spent, spans q.sent, spans q.heard, gifts q.out] = (D.set j q).map Purse.enc := fun q => p_set
    rw [hlt] at hsi
    generalize ansL D[j] W[i] (hearA D[j] W[i]).2 = A at h8 hR2 hsi hto2 ⊢
    generalize (hearA D[j] W[i]).1 = q at h8 hR2 hsi ⊢
    simp -implicitDefEqProofs only [rX,↓rY,rdK,ofConst,cells?,↓reduceIte,Nat.reduceEqDiff,arrSz,Nat.reduceAdd,freshP,zc22,yD,yA,h1,hW,hto,l_len,le_18,l_t]
    refine fun _ => ⟨hii, hi', hjj, hj, hii, hi', ?_⟩
    constructor <;> (
     refine call_is h8 pl_lend rfl trivial ?_
     simp -implicitDefEqProofs only [rX,↓rY,ofConst,cells?,splice,↓reduceIte,Nat.reduceEqDiff,arrSz,Nat.reduceAdd,freshP,isD,isC,zc22,yI,yD,yA]
     refine ⟨by omega, hj, ?_⟩
     rw [hset]
     refine loopP_intro (fun m : Nat => ⟨[(14, .i m), (13, ltrs A), (10, .i i), (9, ltrs W), (8, .i k), (7, .i r), (5, .ptr 0 0 0), (4, .b false), (0, u8 n)], hW ((A.take m).foldl (ackW k) (D.set j q)) w.way w.spent, 5⟩) (fun m => m ≤ A.length) (fun m => A.length - m) 0 (by omega) ?_ ?_
     ·simp -implicitDefEqProofs only [rX,↓reduceIte,Nat.reduceEqDiff,reduceCtorEq,leE,leH,leB,leV,leVs,keepP,liveP,wfE,wfB,wfV,wfL,yB,hW,yJ,List.length_set]
     rintro m hm
     unfold c3l4
     rcases yC m A.length with hm' | hm'
     ·have h1 : decide ((m : Int) < (A.length : Int)) = true := decide_eq_true (by omega)
      have hmm : (0 : Int) ≤ m ∧ (m : Int) < A.length := ⟨by omega, by omega⟩
      have hRm := rd_acks (A.take m) hR2 (fun a ha => ⟨List.mem_append_left _ (yF ha), hto2 a (yF ha)⟩) (by simpa using hkD)
      have hsm := fold_tk (f := ackW k) (b := D.set j q) hm'
      generalize (A.take m).foldl (ackW k) (D.set j q) = F at hRm hsm ⊢
      have hkF : k < F.length := by rw [hRm.i.len]; omega
      have hkkF : (0 : Int) ≤ k ∧ (k : Int) < F.length := ⟨by omega, by omega⟩
      obtain ⟨hrk, _⟩ := hRm.i.rt k hkF
      have h8k := hW_hear hrk A[m]
      have hsetF : ∀ q : Purse, (F.map Purse.enc).set k [u8 q.id.a0, u8 q.id.a1, u8 q.id.a2, u8 q.id.a3, u8 q.id.a4, u8 q.id.a5, u8 q.id.a6, u8 q.id.a7, u8 q.id.a8, u8 q.id.a9, u8 q.id.a10, u8 q.id.a11, u8 q.id.a12, u8 q.id.a13, u8 q.id.a14, u8 q.id.a15, .i q.me, spans q.left, spans q.spent, spans q.sent, spans q.heard, gifts q.out] = (F.set k q).map Purse.enc := fun q => p_set
      have hack : ackW k F A[m] = F.set k (hearA F[k] A[m]).1 := by unfold ackW; rw [pk_eq hkF]
      rw [hack] at hsm
      generalize ansL F[k] A[m] (hearA F[k] A[m]).2 = A2 at h8k
      generalize (hearA F[k] A[m]).1 = q2 at h8k hsm
      simp -implicitDefEqProofs only [rX,↓rY,rdK,↓reduceIte,Nat.reduceEqDiff,arrSz,Nat.reduceAdd,yD,yA,h1,hW,l_len,l_t]
      refine fun _ => ⟨hkkF, hkF, hmm, hm', ?_⟩
      refine call_is h8k pl_lend rfl trivial ?_
      simp -implicitDefEqProofs only [rX,↓rY,ofConst,cells?,splice,↓reduceIte,Nat.reduceEqDiff,arrSz,Nat.reduceAdd,reduceCtorEq,leE,leH,leB,leV,leVs,keepP,liveP,wfE,wfB,wfV,wfL,isD,isC,yI,yA]
      refine ⟨hkkF, hkF, ?_⟩
      rw [hsetF]
      exact ⟨by simp only [lo, Fx.hi, maxLen] at *; omega, m + 1, ⟨by omega, by omega⟩, by simp, by rw [hsm]; simp, by rw [hsm]⟩
     ·obtain rfl : m = A.length := by omega
      have h1 : decide ((A.length : Int) < (A.length : Int)) = false := decide_eq_false (by omega)
      rw [List.take_length]
      simp -implicitDefEqProofs only [rX,↓rY,ofConst,↓reduceIte,Nat.reduceEqDiff,Nat.reduceAdd,reduceCtorEq,leE,leH,leB,leV,leVs,keepP,liveP,wfE,wfB,wfV,wfL,yA,h1,hW]
      exact fun _ => ⟨by simp only [lo, Fx.hi, maxLen] at *; omega, i + 1, ⟨by omega, by omega⟩, by simp, by rw [hsi], by rw [hsi]⟩)
   ·obtain rfl : i = W.length := by omega
    have h1 : decide ((W.length : Int) < (W.length : Int)) = false := decide_eq_false (by omega)
    rw [List.take_length, ← hs]
    simp -implicitDefEqProofs only [rX,↓rY,ofConst,↓reduceIte,Nat.reduceEqDiff,Nat.reduceAdd,reduceCtorEq,leE,leH,leB,leV,leVs,keepP,liveP,wfE,wfB,wfV,wfL,yA,h1,hW]
    exact fun _ => ⟨by simp only [lo, Fx.hi] at *; omega, k + 1, ⟨by omega, by omega⟩, by simp⟩
  ·obtain rfl : k = 4 := by omega
   have h1 : decide (((4 : Nat) : Int) < 4) = false := rfl
   have hd1 : (yE 4).foldl parW A = rdsW w.all (r + 1) := by rw [← hA]; rfl
   rw [hd1]
   simp -implicitDefEqProofs only [rX,↓rY,ofConst,↓reduceIte,Nat.reduceEqDiff,arrSz,Nat.reduceAdd,reduceCtorEq,leE,leH,leB,leV,leVs,keepP,liveP,wfE,wfB,wfV,wfL,yD,yA,h1,hW]
   exact ⟨by simp only [lo, Fx.hi] at *; omega, r + 1, ⟨by omega, by omega⟩, by simp⟩
 ·obtain rfl : r = 64 := by omega
  have h1 : decide (((64 : Nat) : Int) < 64) = false := rfl
  obtain ⟨hE, hemp⟩ := rds_ok hn hJ 64
  have hemp := hemp (by decide)
  generalize rdsW w.all 64 = E at hE hemp ⊢
  have hlE := hE.i.len
  simp -implicitDefEqProofs only [rX,↓rY,ofConst,↓reduceIte,Nat.reduceAdd,yA,h1,hW]
  refine loopP_intro (fun k : Nat => ⟨[(16, .i k), (15, .i (sumT (E.take k))), (5, .ptr 0 0 0), (4, .b false), (0, u8 n)], hW E w.way w.spent, 4⟩) (fun k => k ≤ 4) (fun k => 4 - k) 0 (by omega) ?_ ?_
  ·simp -implicitDefEqProofs only [rX,↓reduceIte,Nat.reduceEqDiff,reduceCtorEq,leE,leH,leB,leV,leVs,keepP,liveP,wfE,wfB,wfV,wfL,yB,hW]
   rfl
  rintro k hk
  unfold c3l5
  rcases yC k 4 with hk' | hk'
  ·have h1 : decide ((k : Int) < 4) = true := decide_eq_true (by omega)
   have hkl : k < E.length := by omega
   have hkk : (0 : Int) ≤ k ∧ (k : Int) < E.length := ⟨by omega, by omega⟩
   have hr := (hE.i.rt k hkl).1
   have ho := hemp k hkl hk'
   have h2 : decide ((0 : Int) < (E[k].out.length : Int)) = false := by rw [ho]; rfl
   have hb := sum_bd (l := E.take k) (fun p hp => by
    obtain ⟨i, hi, rfl⟩ := List.getElem_of_mem (yF hp)
    exact (hE.i.rt i hi).1)
   rw [List.length_take] at hb
   have hsn : sumT (E.take (k + 1)) = sumT (E.take k) + (tot E[k].left + tot E[k].spent) := sumT_s hkl
   have hbl := hr.l.v.tot
   have hbs := hr.s.v.tot
   generalize sumT (E.take k) = S at hb hsn ⊢
   simp -implicitDefEqProofs only [rX,↓rY,rdK,ofConst,↓reduceIte,Nat.reduceEqDiff,arrSz,Nat.reduceAdd,resP,tupV,wfV,yA,h1,h2,hW]
   refine ⟨hkk, hkl, fun _ => ⟨hkk, hkl, hkk, hkl, ?_⟩⟩
   refine call_is (ok9 E[k].left hr.l.v) (by simp [lendsOk, lendOk, lends, lend, wkL, wk, wkR]) rfl trivial ?_
   simp -implicitDefEqProofs only [rX,↓rY,↓reduceIte,Nat.reduceEqDiff,yA]
   refine ⟨by simp only [lo, Fx.hi]; omega, ?_⟩
   refine call_is (ok9 E[k].spent hr.s.v) (by simp [lendsOk, lendOk, lends, lend, wkL, wk, wkR]) rfl trivial ?_
   simp -implicitDefEqProofs only [rX,↓rY,ofConst,↓reduceIte,Nat.reduceEqDiff,Nat.reduceAdd,reduceCtorEq,leE,leH,leB,leV,leVs,keepP,liveP,wfE,wfB,wfV,wfL,yA]
   exact ⟨by simp only [lo, Fx.hi]; omega, by simp only [lo, Fx.hi]; omega, k + 1, ⟨by omega, by omega⟩, by simp, by rw [hsn]; omega⟩
  ·obtain rfl : k = 4 := by omega
   have h1 : decide (((4 : Nat) : Int) < 4) = false := rfl
   have hse := sum_end hE.i fun i hi => hemp i hi (by omega)
   rw [List.take_of_length_le (by omega), hse]
   simp -implicitDefEqProofs only [rX,↓rY,rdK,ofConst,↓reduceIte,Nat.reduceEqDiff,arrSz,Nat.reduceAdd,resP,tupV,wfV,yA,h1,hW]
   refine call_is ok4 (by simp [lendsOk, lends, wkL]) rfl trivial ?_
   simp -implicitDefEqProofs only [rX,↓rY,↓reduceIte,Nat.reduceEqDiff,reduceCtorEq,resP,tupV,wfV,beq_self_eq_true]
   simp only [lo, Fx.hi]; omega
end Go.Fx.P
namespace Go.Fx.P
open Go Go.Fx Go.Proofs Go.Fx.R
theorem fn_of {f : FuncId} {xs : List V} (h : Ok f xs (Is (.b true))) : Fn Try.prog f xs [] [] (fun r _ => r = .b true) := by
 have h := h.2
 intro ρ X w vals h1 h2
 refine Calls.mono (h ρ X w vals h1 h2) ?_
 rintro e w' ⟨val, r, h', ρ', q1, q2, q3, q4, q5, q6⟩
 exact ⟨val, r, h', ρ', q1, ⟨q2.1.1, q2.2⟩, q3, q4, q5, q6⟩
theorem ex_mapP {α β : Type} {g : α → β} {P : α → Prop} : ∀ {els : List β}, (∀ x ∈ els, ∃ a, x = g a ∧ P a) → ∃ l : List α, els = l.map g ∧ ∀ a ∈ l, P a
 | [], _ => ⟨[], rfl, fun _ h => by cases h⟩
 | x :: r, h => by
  obtain ⟨a, rfl, ha⟩ := h x List.mem_cons_self
  obtain ⟨l, rfl, hl⟩ := ex_mapP (els := r) fun y hy => h y (yK _ hy)
  refine ⟨a :: l, rfl, fun b hb => ?_⟩
  rcases List.mem_cons.1 hb with rfl | hb
  ·exact ha
  ·exact hl b hb
theorem wf_int {k : IntKind} {x : List V} (h : WfT (.int k) x) : ∃ n : Int, x = [.v (.int k n)] ∧ lo k ≤ n ∧ n ≤ hi k := by
 simpa only [WfT] using h
theorem wf_cons {t : Fx.T} {ts : List Fx.T} {x : List V} (h : WfTs (t :: ts) x) : ∃ a b, x = a ++ b ∧ WfT t a ∧ WfTs ts b := by
 rwa [WfTs.eq_2] at h
end Go.Fx.P
namespace Go.Fx.P
open Go Go.Fx Go.Proofs Go.Fx.R
theorem wf_act {x : List V} (h : WfT (.st [.int .u8, .int .u8, .int .u8, .int .u8]) x) : ∃ a : Act, x = a.enc ∧ a.Ok := by
 rw [WfT] at h
 obtain ⟨_, _, rfl, q0, h⟩ := wf_cons h
 obtain ⟨_, _, rfl, q1, h⟩ := wf_cons h
 obtain ⟨_, _, rfl, q2, h⟩ := wf_cons h
 obtain ⟨_, _, rfl, q3, h⟩ := wf_cons h
 rw [WfTs.eq_1] at h
 subst h
 obtain ⟨n0, rfl, h0⟩ := wf_int q0
 obtain ⟨n1, rfl, h1⟩ := wf_int q1
 obtain ⟨n2, rfl, h2⟩ := wf_int q2
 obtain ⟨n3, rfl, h3⟩ := wf_int q3
 exact ⟨⟨n0, n1, n2, n3⟩, rfl, h0, h1, h2, h3⟩
theorem wv_u8 {x : V} (h : WfV (.int .u8) x) : ∃ n : Int, x = u8 n ∧ 0 ≤ n ∧ n ≤ 255 := by
 simp only [WfV] at h
 obtain ⟨n, h1, h2, h3⟩ := wf_int h
 exact ⟨n, by simpa using h1, h2, h3⟩
theorem wv_acts {x : V} (h : WfV (.sl 4 (.st [.int .u8, .int .u8, .int .u8, .int .u8])) x) : ∃ l : List Act, x = .ro 4 (l.map Act.enc) ∧ ∀ a ∈ l, a.Ok := by
 simp only [WfV] at h
 rw [WfT] at h
 obtain ⟨els, h, _, he⟩ := h
 obtain ⟨l, rfl, hl⟩ := ex_mapP (g := Act.enc) (P := Act.Ok) fun x hx => wf_act (he x hx)
 exact ⟨l, by simpa using h, hl⟩
end Go.Fx.P
namespace Go.Fx.P
open Go Go.Fx Go.Proofs Go.Fx.R
theorem fn3 : ∀ xs, WfA [.int .u8, .sl 4 (.st [.int .u8, .int .u8, .int .u8, .int .u8])] xs → Fn Try.prog 3 xs [] [] (fun r _ => r = .b true) := by
 intro xs h
 obtain ⟨x1, _, rfl, h1, x2, _, rfl, h2, h⟩ := h
 obtain rfl : _ = [] := h
 obtain ⟨n, rfl, h3, h4⟩ := wv_u8 h1
 obtain ⟨l, rfl, hl⟩ := wv_acts h2
 obtain ⟨m, rfl⟩ := Int.eq_ofNat_of_zero_le h3
 exact fn_of (ok3 m (by omega) l hl)
end Go.Fx.P
