import Derived.Test.YtgahgbpccjcmmaaT23
import Derived.Test.YtgahgbpccjcmmaaFxRun
set_option linter.unusedVariables false
set_option linter.unusedSimpArgs false
set_option linter.unusedSectionVars false
open Option.some renaming injEq → yA
open Bool renaming and_eq_true → yB, not_eq_true' → vH
open List renaming range → yC, getD_eq_getElem?_getD → yD, mem_map → yE, mem_singleton_self → yF, mem_cons_of_mem → yH, map_cons → yJ, getElem?_eq_getElem → yK, getElem?_map → yL, map_congr_left → yM, replicate → yN, mem_cons → yP, map_append → yQ, mem_cons_self → yR, take → yS, ext_getElem → yU, all_eq_true → yV, getElem?_range → yX, mem_range → yY, getElem?_eq_none → yZ, drop → vA, reverse_nil → vB, nil_append → vC, take_of_length_le → vD, mem_append_right → vF, length_pos_iff → vI, reverse_cons → vJ, getElem_map → vK, getElem_range → vL, mem_singleton → vN, getElem?_replicate → vO, getElem_replicate → vP, range_eq_range' → vQ, mem_append_left → vR, getElem?_eq_some_iff → vS
open Option renaming map_eq_some_iff → yG
open Nat renaming le_refl → yI, zero_le → yO, lt_succ_self → yW, zero_add → vE
open Int renaming ofNat_lt → yT, tmod_eq_emod_of_nonneg → vM
open Prod.mk renaming injEq → vG
namespace Go.Fx.D
open Go Go.Fx Go.Proofs
set_option maxRecDepth 20000
def Dk.someD (D : Dk) (k : Nat) : Dk := { D with cells := (yC D.cells.length).map fun i => if i < k ∧ D.op i ≠ [] then ⟨lastS (D.op i), false⟩ else D.cells.getD i zC, opn := (yC D.cells.length).map fun i => if i < k then [] else D.op i }
def Dk.sySE (D : Dk) : Int := if D.dead then 130 else D.stepE
def Dk.sySD (D : Dk) : Dk := if D.dead then D else if D.stepE ≠ 0 then D.stepD else D.stepD.allD
theorem someD_n {D : Dk} {k : Nat} : (D.someD k).cells.length = D.cells.length := by simp [Dk.someD]
theorem someD_op {D : Dk} {k i : Nat} (hi : i < D.cells.length) : (D.someD k).op i = if i < k then [] else D.op i := by
 show ((yC D.cells.length).map fun i => if i < k then [] else D.op i).getD i [] = _
 rw [yD, yL, yX hi]; rfl
theorem someD_cl {D : Dk} {k i : Nat} (hi : i < D.cells.length) : (D.someD k).cl i = if i < k ∧ D.op i ≠ [] then ⟨lastS (D.op i), false⟩ else D.cl i := by
 show ((yC D.cells.length).map fun i => if i < k ∧ D.op i ≠ [] then (⟨lastS (D.op i), false⟩ : Cl) else D.cells.getD i zC).getD i zC = _
 rw [yD, yL, yX hi]; rfl
theorem rows_some0 {D : Dk} : rowsF (D.someD 0) = rowsF D := by
 unfold rowsF
 rw [someD_n]
 refine yM fun i hi => ?_
 rw [yY] at hi
 rw [someD_op hi, someD_cl hi, if_neg (by omega), if_neg (by omega)]
theorem rows_some_s {D : Dk} {k : Nat} (hk : k < D.cells.length) (ho : D.op k ≠ []) {v : List V} (hv : v = rowF ⟨lastS (D.op k), false⟩ []) : (rowsF (D.someD k)).set k v = rowsF (D.someD (k + 1)) := by
 refine rowsF_set (by rw [someD_n, someD_n]) (by rw [someD_n]; exact hk) ?_ fun j hj => ?_
 ·have e : (k < k + 1) = True := eq_true (by omega)
  simp [hv, someD_op hk, someD_cl hk, ho]
 ·by_cases hjn : j < D.cells.length
  ·have e : (j < k + 1) = (j < k) := propext (by omega)
   simp only [someD_op hjn, someD_cl hjn, e]
  ·have h1 : ∀ m, (D.someD m).op j = [] := fun m => by
    unfold Dk.op
    rw [yD, yZ (by simp [Dk.someD]; omega)]; rfl
   have h2 : ∀ m, (D.someD m).cl j = zC := fun m => by
    unfold Dk.cl
    rw [yD, yZ (by simp [Dk.someD]; omega)]; rfl
   rw [h1, h1, h2, h2]
theorem rows_some_n {D : Dk} {k : Nat} (hk : k < D.cells.length) (ho : D.op k = []) : rowsF (D.someD k) = rowsF (D.someD (k + 1)) := by
 unfold rowsF
 rw [someD_n, someD_n]
 refine yM fun j hj => ?_
 rw [yY] at hj
 by_cases e : j = k
 ·subst e
  simp [someD_op hj, someD_cl hj, ho]
 ·have e : (j < k + 1) = (j < k) := propext (by omega)
  simp only [someD_op hj, someD_cl hj, e]
theorem some_all {D : Dk} : rowsF (D.someD D.cells.length) = rowsF D.allD := by
 have hn : D.allD.cells.length = D.cells.length := by simp [Dk.allD]
 unfold rowsF
 rw [someD_n, hn]
 refine yM fun j hj => ?_
 rw [yY] at hj
 have h1 : D.allD.op j = [] := by
  show (yN D.cells.length ([] : List Sec)).getD j [] = []
  rw [yD, vO]
  split <;> rfl
 have h2 : D.allD.cl j = if D.op j = [] then D.cl j else ⟨lastS (D.op j), false⟩ := by
  show ((yC D.cells.length).map fun i => if D.op i = [] then D.cells.getD i zC else ⟨lastS (D.op i), false⟩).getD j zC = _
  rw [yD, yL, yX hj]; rfl
 rw [someD_op hj, someD_cl hj, if_pos hj, h1, h2]
 by_cases e : D.op j = []
 ·simp [e]
 ·simp [e, hj]
theorem ok28 (D : Dk) (hs : D.steps ≤ 100000) (ha : -1 ≤ D.after ∧ D.after ≤ 9223372036854775807) (hl : ∀ k, (D.op k).length ≤ 1000) (hn : D.cells.length ≤ 65536) : OkF 28 [.ptr 0 0 0] D (fun r D' => D' = D.sySD ∧ r = .i D.sySE) := by
 refine okF_of lw28 (by simp) ?_
 unfold c28 fV fC
 simp -implicitDefEqProofs only [rX,↓rY,ofConst,↓reduceIte,Nat.reduceAdd,reduceCtorEq,cxN,args0]
 simp only [br, decide_eq_true_eq, decide_eq_false_iff_not]
 refine ⟨fun h => ?_, fun h => ?_⟩
 ·refine retF D (leH_refl _) rfl ⟨trivial, ?_, ?_⟩
  ·rw [Dk.sySD, if_pos h]
  ·show V.i 130 = _; rw [Dk.sySE, if_pos h]
 have hd : ¬ D.dead = true := by rw [h]; simp
 show callP _ 40 _ ⟨_, [] ++ (fs 0 D ++ []), _⟩ _
 refine call_f 0 [] [] rfl rfl (ok40 D hs ha) (fun _ _ => ⟨trivial, trivial⟩) (fun _ => ⟨trivial, trivial, trivial⟩) ?_
 rintro r D1 hn1 ⟨hD1, rfl⟩
 refine ⟨fun _ => rfl, ?_⟩
 have e0 : ([] ++ (fs 0 D1 ++ [])) = [fV 0 D1, fC D1] := rfl
 rw [e0]
 unfold fV fC
 simp -implicitDefEqProofs only [rX,ofConst,↓reduceIte,Nat.reduceAdd]
 simp only [br, decide_eq_true_eq, decide_eq_false_iff_not, vH, Bool.not_eq_false', decide_eq_true_eq, decide_eq_false_iff_not]
 refine ⟨fun h2 => ?_, fun h2 => ?_⟩
 ·have h2 : D.stepE ≠ 0 := by simpa using h2
  refine retF D1 (leH_refl _) hn1 ⟨trivial, ?_, ?_⟩
  ·rw [Dk.sySD, if_neg hd, if_pos h2, hD1]
  ·show V.i 130 = _
   rw [Dk.sySE, if_neg hd]
   unfold Dk.stepE at h2 ⊢
   split
   ·rfl
   ·rename_i h3; rw [if_neg h3] at h2; exact absurd rfl h2
 have h2 : D.stepE = 0 := by simpa using h2
 have hn1' : D1.n = D.cells.length := hn1
 have hD1c : D1.cells = D.cells := by rw [hD1]; unfold Dk.stepD; split <;> rfl
 have hD1o : ∀ k, D1.op k = D.op k := fun k => by rw [hD1]; unfold Dk.stepD; split <;> rfl
 refine loopP_intro (fun k : Nat => (⟨[(4, .i k), (0, .ptr 0 0 0)], [fV 0 D1, .arv 66 (rowsF (D1.someD k))], 0⟩ : St)) (fun k => k ≤ D1.cells.length) (fun k => D1.cells.length - k) 0 (yO _) ?_ ?_
 ·refine ⟨⟨rfl, rfl, trivial⟩, ⟨leB_refl _, ?_, trivial⟩, ⟨trivial, trivial, trivial⟩, ⟨trivial, trivial, trivial⟩, ⟨⟨trivial, trivial, trivial, trivial, trivial⟩, rows_wf, trivial⟩⟩
  rw [rows_some0]; exact leB_refl _
 rintro k hk
 have hk : k ≤ D1.cells.length := hk
 unfold c28l0 fV
 have hrl : (rowsF (D1.someD k)).length = D1.cells.length := by rw [rowsF_len, someD_n]
 simp -implicitDefEqProofs only [rX,↓rY,ofConst,cells?,splice,↓reduceIte,Nat.reduceEqDiff,arrSz,Nat.reduceAdd,reduceCtorEq,buildP,leE,leH,leB,leV,leVs,keepP,liveP,wfE,wfB,wfV,wfL,cz_map,rowsF_get,rowF_65]
 simp only [br, decide_eq_true_eq, decide_eq_false_iff_not]
 have hn6 : D1.cells.length ≤ 65536 := by rw [hD1c]; exact hn
 refine fun _ => ⟨fun hlt => ?_, fun hge => ?_⟩
 ·have hkn : k < D1.cells.length := by omega
  have hnx : ∀ X : List (List V), X = rowsF (D1.someD (k + 1)) → (lo .i64 ≤ (k : Int) + 1 ∧ (k : Int) + 1 ≤ Fx.hi .i64) ∧ ∃ g' : Nat, (g' ≤ D1.cells.length ∧ D1.cells.length - g' < D1.cells.length - k) ∧ (k : Int) + 1 = (g' : Int) ∧ Blk.arv 66 X = Blk.arv 66 (rowsF (D1.someD g')) ∧ wfL [fV 0 D1, Blk.arv 66 (rowsF (D1.someD g'))] (rowsF (D1.someD g')).flatten := by
   rintro X rfl
   exact ⟨by simp only [lo, Fx.hi]; omega, k + 1, ⟨by omega, by omega⟩, by omega, rfl, rows_wf⟩
  refine ⟨⟨by omega, hlt⟩, by rw [hrl]; exact hkn, ?_⟩
  rw [someD_op hkn, if_neg (Nat.lt_irrefl k)]
  by_cases ho : D1.op k = []
  ·rw [opR, if_pos ho]
   simp -implicitDefEqProofs only [rX,↓rY]
   exact ⟨fun h => absurd h (by decide), fun _ => hnx _ (rows_some_n hkn ho)⟩
  ·have hl0 : 0 < (D1.op k).length := vI.2 ho
   have hlk : (D1.op k).length ≤ 1000 := by rw [hD1o]; exact hl k
   rw [opR, if_neg ho]
   have hz64 : vA 64 cz = [.b false, .nil] := rfl
   simp -implicitDefEqProofs only [rX,↓rY,Nat.reduceAdd,Nat.reduceLeDiff,sec_len,sec_take,n62,hz64,cz_len,rowF_d66]
   refine fun _ => ⟨fun _ => ⟨⟨by omega, hlt⟩, by rw [hrl]; exact hkn, by simp only [lo, Fx.hi]; omega, ⟨by omega, by omega⟩, by omega, ⟨by omega, hlt⟩, ?_, by rw [hrl]; exact hkn, ?_⟩, fun h => absurd h (by omega)⟩
   ·rw [List.all_append, sec_C]; rfl
   ·refine hnx _ (rows_some_s hkn ho ?_)
    rw [last_getF]
    simp [rowF, Cl.enc, opR]
 ·have hke : k = D1.cells.length := by omega
  subst hke
  rw [some_all]
  have hsy : D.sySD = D1.allD := by rw [Dk.sySD, if_neg hd, if_neg (by rw [h2]; decide), hD1]
  refine retF D1.allD ⟨⟨?_, rfl, rfl, rfl, trivial⟩, leB_refl _, trivial⟩ (by simp [Dk.allD, hn1]) ⟨trivial, hsy.symm, ?_⟩
  ·show V.sl 1 0 D1.cells.length = V.sl 1 0 D1.allD.cells.length
   simp [Dk.allD]
  ·show V.i 0 = _
   rw [Dk.sySE, if_neg hd, h2]
theorem rows_add {D : Dk} {k : Nat} {s : Sec} {v : List V} (hl : D.opn.length = D.cells.length) (hk : k < D.cells.length) (hv : v = rowF (D.cl k) (D.op k ++ [s])) : (rowsF D).set k v = rowsF (D.addD k s) := by
 refine rowsF_set rfl hk ?_ fun j hj => ?_
 ·rw [hv, add_op (by omega), if_pos rfl]; rfl
 ·rw [add_op (by omega), if_neg hj]; rfl
theorem wfL_app {H : List Blk} : ∀ {x y : List V}, wfL H x → wfL H y → wfL H (x ++ y)
 | [], y, _, h => h
 | a :: r, y, h1, h2 => ⟨h1.1, wfL_app h1.2 h2⟩
theorem rows_set_wf {H : List Blk} {D : Dk} {k : Nat} {v : List V} (hv : wfL H v) : wfL H ((rowsF D).set k v).flatten := by
 have : ∀ (l : List (List V)) (k : Nat), (∀ x ∈ l, wfL H x) → wfL H (l.set k v).flatten := by
  intro l
  induction l with
  | nil => intro k _; exact trivial
  | cons a r ih =>
   intro k h
   cases k with
   | zero =>
    have h0 : ∀ l : List (List V), (∀ x ∈ l, wfL H x) → wfL H l.flatten := by
     intro l
     induction l with
     | nil => intro _; exact trivial
     | cons a r ih => intro h; exact wfL_app (h a yR) (ih fun x hx => h x (yH _ hx))
    exact wfL_app hv (h0 r fun x hx => h x (yH _ hx))
   | succ k => exact wfL_app (h a yR) (ih k fun x hx => h x (yH _ hx))
 refine this _ _ fun x hx => ?_
 rw [rowsF, yE] at hx
 obtain ⟨i, _, rfl⟩ := hx
 exact rowF_wf
def raw27 (D : Dk) (i : Int) (s : Sec) : V → List Blk → Prop := fun r h => QF D.cells.length (fun r D' => D' = D.wrD i s ∧ r = .i (D.wrE i)) r h ∨ (r = .i (D.wrE i) ∧ ∃ (D1 : Dk) (k : Nat), k < D1.cells.length ∧ D1.cells.length = D.cells.length ∧ D1.opn.length = D1.cells.length ∧ D1.addD k s = D.wrD i s ∧ h = [fV 0 D1, .arv 66 ((rowsF D1).set k ((D1.cl k).enc ++ [.sl 3 0 ((D1.op k).length + 1)])), .dead, .arr 64 ((D1.op k ++ [s]).map Sec.enc)])
theorem rowF_t65 {c : Cl} {l : List Sec} : yS 65 (rowF c l) = c.enc := by
 rw [rowF, List.take_append_of_le_length (by rw [cl_len]; exact yI _), cl_take5]
theorem ok27a (D : Dk) (i : Int) (s : Sec) (hs : D.steps ≤ 100000) (ha : -1 ≤ D.after ∧ D.after ≤ 9223372036854775807) (hb : ∀ k, (D.op k).length ≤ 1000) (ho : D.opn.length = D.cells.length) : OkN Try.prog 27 [.ptr 0 0 0, .i i, .agg s.enc] (fs 0 D) [] (raw27 D i s) := by
 refine okN_of pol [0, 1] lw27 (by simp) ⟨trivial, trivial, trivial⟩ (fun k hk _ => ?_) ?_
 ·rw [fs_len] at hk
  have : k = 0 ∨ k = 1 := by omega
  rcases this with rfl | rfl <;> simp
 rw [fs_len]
 show aw _ _ _ _ _ ⟨_, [fV 0 D, fC D], 0⟩
 unfold c27
 simp -implicitDefEqProofs only [rX,↓rY,ofConst,cells?,↓reduceIte,Nat.reduceEqDiff,Nat.reduceAdd,reduceCtorEq,freshP,cxN,args0]
 show callP _ 35 _ ⟨_, [] ++ (fs 0 D ++ [.var s.enc]), _⟩ _
 refine call_f 0 [] [.var s.enc] rfl rfl (ok35 D i) (fun _ _ => ⟨⟨trivial, trivial⟩, rfl, trivial⟩) (fun _ => ⟨trivial, trivial, trivial⟩) ?_
 rintro r D' _ ⟨hD, rfl⟩
 subst D'
 refine ⟨fun _ => rfl, ?_⟩
 have e0 : ([] ++ (fs 0 D ++ [Blk.var s.enc])) = [fV 0 D, fC D, .var s.enc] := rfl
 rw [e0]
 simp -implicitDefEqProofs only [rX,↓rY,ofConst,↓reduceIte,Nat.reduceEqDiff,Nat.reduceAdd,reduceCtorEq]
 simp only [br, decide_eq_true_eq, decide_eq_false_iff_not, bne_iff_ne, bne_eq_false_iff_eq]
 have finQ : ∀ (D1 : Dk) (e : Env) (h : List Blk) (b : Nat) (q : Int), leH h (fs 0 D1) → get e 6 = .i q → q = D.wrE i → D1.cells.length = D.cells.length → D1 = D.wrD i s → retP [0, 1] 2 [LRes.tmp 6] (raw27 D i s) ⟨e, h, b⟩ := by
  intro D1 e h b q hh h6 hq hn hD
  have := retF (b := b) (e := e) (rs := [LRes.tmp 6]) (Q := fun r D' => D' = D.wrD i s ∧ r = .i (D.wrE i)) D1 hh hn (by
   simp only [resP, vJ, vB, vC, tupV, h6, hq]
   exact ⟨trivial, hD, trivial⟩)
  rw [retP_eq] at this ⊢
  exact resP_mono _ _ (fun xs ⟨p, h1, h2⟩ => ⟨p, h1, .inl h2⟩) this
 refine ⟨fun h => finQ D _ _ _ _ ⟨leB_refl _, leB_refl _, trivial⟩ rfl (by rw [Dk.wrE, if_pos h]) rfl (by rw [Dk.wrD, if_pos h]), fun h => ?_⟩
 show callP _ 40 _ ⟨_, [] ++ (fs 0 D ++ [.var s.enc]), _⟩ _
 refine call_f 0 [] [.var s.enc] rfl rfl (ok40 D hs ha) (fun _ _ => ⟨trivial, trivial⟩) (fun _ => ⟨trivial, trivial, trivial⟩) ?_
 rintro r D1 hn1 ⟨hD1, rfl⟩
 refine ⟨fun _ => rfl, ?_⟩
 have e1 : ([] ++ (fs 0 D1 ++ [Blk.var s.enc])) = [fV 0 D1, fC D1, .var s.enc] := rfl
 rw [e1]
 unfold fV fC
 simp -implicitDefEqProofs only [rX,↓rY,rdK,ofConst,cells?,splice,↓reduceIte,Nat.reduceEqDiff,arrSz,Nat.reduceAdd,reduceCtorEq,freshP,litsP,killE,killB,kill,kills,St.kill,isC,Nat.reduceLT,rep64,sec_len,sec_take,sec_D,sec_kill,n61,rowsF_get,rowF_65]
 simp only [br, decide_eq_true_eq, decide_eq_false_iff_not]
 refine ⟨fun h2 => ?_, fun h2 => ?_⟩
 ·have h2 : D.stepE ≠ 0 := by simpa using h2
  refine finQ D1 _ _ _ _ ⟨leB_refl _, leB_refl _, trivial⟩ rfl ?_ hn1 ?_
  ·rw [Dk.wrE, if_neg (by rw [h]; simp)]
   unfold Dk.stepE at h2 ⊢
   split
   ·rfl
   ·rename_i h3; rw [if_neg h3] at h2; exact absurd rfl h2
  ·rw [Dk.wrD, if_neg (by rw [h]; simp), if_pos h2, hD1]
 have h2 : D.stepE = 0 := by simpa using h2
 obtain ⟨c1, c2, c3⟩ := chk_0 h
 obtain ⟨k, rfl⟩ : ∃ k : Nat, i = k := ⟨i.toNat, by omega⟩
 have hk : k < D1.cells.length := by rw [hn1]; omega
 have hkr : k < (rowsF D1).length := by rw [rowsF_len]; exact hk
 have hkn : (k : Int) < (D1.n : Int) := yT.2 hk
 have hD1o : ∀ k, D1.op k = D.op k := fun k => by rw [hD1]; unfold Dk.stepD; split <;> rfl
 have hbk : (D1.op k).length ≤ 1000 := by rw [hD1o]; exact hb k
 have hol : D1.opn.length = D1.cells.length := by
  rw [hn1, ← ho, hD1]; unfold Dk.stepD; split <;> rfl
 have hw : D1.addD k s = D.wrD k s := by
  rw [Dk.wrD, if_neg (by rw [h]; simp), if_neg (by rw [h2]; simp), Int.toNat_natCast, hD1]
 have he : D.wrE k = 0 := by rw [Dk.wrE, if_neg (by rw [h]; simp), h2]
 have fin : ∀ (e : Env) (b : Nat) (X : List Blk) (y z : Blk), get e 6 = .i 0 → leB y z → z = .arr 64 ((D1.op k ++ [s]).map Sec.enc) → retP [0, 1] 2 [LRes.tmp 6] (raw27 D k s) ⟨e, fV 0 D1 :: .arv 66 ((rowsF D1).set k ((D1.cl k).enc ++ [.sl 3 0 ((D1.op k).length + 1)])) :: .var s.enc :: y :: X, b⟩ := by
  rintro e b X y z h6 hyz rfl
  rw [retP_eq]
  simp only [resP, vJ, vB, vC, tupV, h6]
  refine ⟨[fV 0 D1, .arv 66 ((rowsF D1).set k ((D1.cl k).enc ++ [.sl 3 0 ((D1.op k).length + 1)])), .dead, .arr 64 ((D1.op k ++ [s]).map Sec.enc)], ⟨⟨leB_refl _, leB_refl _, trivial, hyz, by cases X <;> trivial⟩, ⟨trivial, trivial, trivial⟩, by simp, trivial, ?_⟩, .inr ⟨by rw [he], D1, k, hk, hn1, hol, hw, rfl⟩⟩
  refine ⟨⟨trivial, trivial, trivial, trivial, trivial⟩, ?_, trivial⟩
  exact rows_set_wf (wfL_app (plain_wf cl_plain) ⟨trivial, trivial⟩)
 rw [Int.toNat_natCast]
 refine ⟨⟨c1, hkn⟩, hkr, ?_⟩
 by_cases hop : D1.op k = []
 ·have hf : ∀ (e : Env) (b : Nat) (X : List Blk), get e 6 = .i 0 → retP [0, 1] 2 [LRes.tmp 6] (raw27 D k s) ⟨e, fV 0 D1 :: .arv 66 ((rowsF D1).set k ((D1.cl k).enc ++ [.sl 3 0 1])) :: .var s.enc :: .arr 64 [s.enc] :: X, b⟩ := fun e b X h6 => by
   have := fin e b X _ _ h6 (leB_refl _) rfl
   rw [hop] at this
   exact this
  rw [opR, if_pos hop]
  simp -implicitDefEqProofs only [rX,↓rY,reduceCtorEq,kill,St.kill,rows_kill,rowF_kill,rowF_t65,rowF_d66]
  exact ⟨⟨⟨by decide, by decide, ⟨c1, hkn⟩, hkr, hf _ _ _ rfl⟩, by decide, by decide, ⟨c1, hkn⟩, hkr, hf _ _ _ rfl⟩, by decide, by decide, ⟨c1, hkn⟩, hkr, hf _ _ _ rfl⟩
 ·rw [opR, if_neg hop]
  simp -implicitDefEqProofs only [rX,↓rY,kill,St.kill,rows_kill,rowF_kill,rowF_t65,rowF_d66]
  have hb1 : (D1.op k).length * 64 ≤ 140737488355328 := by omega
  have hb2 : ((D1.op k).length + 1) * 64 ≤ 140737488355328 := by omega
  have htk : yS (D1.op k).length (List.map Sec.enc (D1.op k)) ++ [s.enc] = (D1.op k ++ [s]).map Sec.enc := by
   rw [vD (by simp), yQ]; rfl
  have hf : ∀ (e : Env) (b : Nat) (X : List Blk), get e 6 = .i 0 → retP [0, 1] 2 [LRes.tmp 6] (raw27 D k s) ⟨e, fV 0 D1 :: .arv 66 ((rowsF D1).set k ((D1.cl k).enc ++ [.sl 3 0 ((D1.op k).length + 1)])) :: .var s.enc :: .arr 64 (yS (D1.op k).length (List.map Sec.enc (D1.op k)) ++ [s.enc]) :: X, b⟩ := fun e b X h6 => by
   rw [htk]
   exact fin e b X _ _ h6 (leB_refl _) rfl
  exact ⟨⟨⟨.inr trivial, hb1, hb2, ⟨c1, hkn⟩, hkr, hf _ _ _ rfl⟩, .inr trivial, hb1, hb2, ⟨c1, hkn⟩, hkr, hf _ _ _ rfl⟩, .inr trivial, hb1, hb2, ⟨c1, hkn⟩, hkr, hf _ _ _ rfl⟩
theorem gvL_map {M : Nat → Bool} {H : List Blk} {l : List V} : gvL M H l = l.map (gvV M H) := by
 induction l with
 | nil => rfl
 | cons x r ih => simp only [gvL, yJ, ih]
theorem gvL_plain {M : Nat → Bool} {H : List Blk} {l : List V} (h : ∀ x ∈ l, ∃ u, x = .v u) : gvL M H l = l := by
 rw [gvL_map]
 induction l with
 | nil => rfl
 | cons x r ih =>
  obtain ⟨u, rfl⟩ := h x yR
  rw [yJ, ih fun y hy => h y (yH _ hy)]; rfl
theorem rows_gv {M : Nat → Bool} {H : List Blk} {D : Dk} : (rowsF D).map (gvL M H) = rowsF D := by
 rw [rowsF, List.map_map]
 refine yM fun i _ => ?_
 simp only [Function.comp]
 rw [gvL_map, rowF, yQ]
 congr 1
 ·rw [← gvL_map]; exact gvL_plain cl_plain
 ·simp only [yJ, List.map_nil, opR]
  split <;> rfl
theorem raw27_leG {D1 : Dk} {k : Nat} {s : Sec} {x : Int} (hk : k < D1.cells.length) (ho : D1.opn.length = D1.cells.length) : leG [0, 1] ⟨[(0, .i x)], [fV 0 D1, .arv 66 ((rowsF D1).set k ((D1.cl k).enc ++ [.sl 3 0 ((D1.op k).length + 1)])), .dead, .arr 64 ((D1.op k ++ [s]).map Sec.enc)], 0⟩ ⟨[(0, .i x)], fs 0 (D1.addD k s), 0⟩ := by
 refine ⟨_, .give (fun j => j == 3) (fun j hj => by simp at hj; rcases hj with rfl | rfl <;> rfl) (.refl _), ?_⟩
 generalize hH : [fV 0 D1, .arv 66 ((rowsF D1).set k ((D1.cl k).enc ++ [.sl 3 0 ((D1.op k).length + 1)])), .dead, .arr 64 ((D1.op k ++ [s]).map Sec.enc)] = H
 have h3 : gvV (fun j => j == 3) H (.sl 3 0 ((D1.op k).length + 1)) = opR (D1.op k ++ [s]) := by
  have hbk : blk H 3 = .arr 64 ((D1.op k ++ [s]).map Sec.enc) := by rw [← hH]; rfl
  rw [opR, if_neg (by simp)]
  simp only [gvV, beq_self_eq_true, if_true, hbk]
  rw [if_pos (by simp), List.drop_zero, vD (by simp)]
 have hv : gvL (fun j => j == 3) H ((D1.cl k).enc ++ [.sl 3 0 ((D1.op k).length + 1)]) = rowF (D1.cl k) (D1.op k ++ [s]) := by
  rw [gvL_map, yQ, ← gvL_map, gvL_plain cl_plain, yJ, h3]; rfl
 have hr : ((rowsF D1).set k ((D1.cl k).enc ++ [.sl 3 0 ((D1.op k).length + 1)])).map (gvL (fun j => j == 3) H) = rowsF (D1.addD k s) := by
  rw [List.map_set, hv]
  rw [rows_gv]
  exact rows_add ho hk rfl
 have hg : ∀ L : List Blk, L = [fV 0 D1, .arv 66 ((rowsF D1).set k ((D1.cl k).enc ++ [.sl 3 0 ((D1.op k).length + 1)])), .dead, .arr 64 ((D1.op k ++ [s]).map Sec.enc)] → gvH (fun j => j == 3) H 0 L = [fV 0 D1, .arv 66 (rowsF (D1.addD k s)), .dead, .dead] := by
  rintro _ rfl
  show [gvB (fun j => j == 3) H (fV 0 D1), gvB (fun j => j == 3) H (.arv 66 _), gvB (fun j => j == 3) H .dead, .dead] = _
  simp only [gvB, hr]
  rfl
 show leS [0, 1] ⟨[(0, .i x)], gvH (fun j => j == 3) H 0 H, 0⟩ _
 rw [hg H hH.symm]
 exact ⟨⟨rfl, trivial⟩, ⟨leB_refl _, leB_refl _, trivial⟩, ⟨trivial, trivial, trivial⟩, ⟨trivial, trivial⟩, ⟨⟨trivial, trivial, trivial, trivial, trivial⟩, rows_wf, trivial⟩⟩
theorem ok27 (D : Dk) (i : Int) (s : Sec) (hs : D.steps ≤ 100000) (ha : -1 ≤ D.after ∧ D.after ≤ 9223372036854775807) (hb : ∀ k, (D.op k).length ≤ 1000) (ho : D.opn.length = D.cells.length) : OkF 27 [.ptr 0 0 0, .i i, .agg s.enc] D (fun r D' => D' = D.wrD i s ∧ r = .i (D.wrE i)) := by
 have h := ok27a D i s hs ha hb ho
 refine ⟨h.1, Fn_ghostN [0, 1] (fun k hk _ => ?_) (fun k hk => ?_) h.2 ?_⟩
 ·rw [fs_len] at hk
  have : k = 0 ∨ k = 1 := by omega
  rcases this with rfl | rfl <;> simp
 ·rw [fs_len]
  simp at hk ⊢
  omega
 rintro r hs (⟨D', ⟨hn, hq⟩, rfl⟩ | ⟨hr, D1, k, hk, hn, hol, hw, rfl⟩)
 ·refine ⟨⟨trivial, trivial, trivial⟩, r, _, ⟨D', ⟨hn, hq⟩, rfl⟩, yI _, _, .refl _, ?_⟩
  rw [hq.2]
  refine ⟨⟨rfl, trivial⟩, leH_refl _, ⟨trivial, trivial, trivial⟩, ⟨trivial, trivial⟩, ?_⟩
  have := fs_wf (A := []) (B := []) (C := []) (D := D') (p := 0) rfl trivial
  simpa using this
 ·refine ⟨⟨trivial, trivial, trivial⟩, r, _, ⟨D1.addD k s, ⟨hn, hw, hr⟩, rfl⟩, yI _, ?_⟩
  rw [hr]
  exact raw27_leG hk hol
def opnA (D : Dk) (k : Nat) : List Nat := opensL D (yC k)
theorem opnA_s {D : Dk} {k : Nat} : opnA D (k + 1) = opnA D k ++ yN (D.op k).length k := by
 rw [opnA, List.range_succ, opensL, List.flatMap_append]; simp [opnA, opensL]
theorem opnA_all {D : Dk} : opnA D D.cells.length = D.opens := by
 rw [opnA, Dk.opens]
 unfold Dk.secs opensL
 generalize yC D.cells.length = l
 induction l with
 | nil => rfl
 | cons x r ih =>
  rw [List.flatMap_cons, ih, List.filter_cons]
  by_cases h : D.op x = []
  ·simp [h]
  ·simp [h]
def rawO (D : Dk) (l : List Nat) : V → List Blk → Prop := fun r h => h = fs 0 D ++ [.arr 1 (l.map nE)] ∧ r = .sl 2 0 l.length
theorem ok33a (D : Dk) (hb : ∀ k, (D.op k).length ≤ 1000) (hn : D.cells.length ≤ 65536) : OkN Try.prog 33 [.ptr 0 0 0] (fs 0 D) [] (rawO D D.opens) := by
 refine okN_of pol [0, 1] lw33 (by simp) ⟨trivial, trivial, trivial⟩ (fun k hk _ => ?_) ?_
 ·rw [fs_len] at hk
  have : k = 0 ∨ k = 1 := by omega
  rcases this with rfl | rfl <;> simp
 rw [fs_len]
 show aw _ _ _ _ _ ⟨_, [fV 0 D, fC D], 0⟩
 unfold c33
 simp -implicitDefEqProofs only [rX,ofConst,Nat.reduceAdd,cxN,args0]
 refine loopP_ghost (.virt 1 1 (by decide) (.nilE 3 2 rfl (.refl _))) (fun k : Nat => (⟨[(4, .i k), (0, .ptr 0 0 0), (3, .sl 2 0 (opnA D k).length)], [fV 0 D, fC D, .arr 1 ((opnA D k).map nE)], 0⟩ : St)) (fun k => k ≤ D.cells.length) (fun k => D.cells.length - k) 0 (yO _) ?_ ?_
 ·exact ⟨⟨rfl, rfl, rfl, trivial⟩, leH_refl _, ⟨trivial, trivial, trivial⟩, ⟨trivial, trivial, trivial, trivial⟩, ⟨⟨trivial, trivial, trivial, trivial, trivial⟩, rows_wf, trivial⟩⟩
 rintro k hk
 have hk : k ≤ D.cells.length := hk
 unfold c33l0 fV fC
 simp -implicitDefEqProofs only [rX,↓rY,ofConst,↓reduceIte,Nat.reduceEqDiff,Nat.reduceAdd,reduceCtorEq]
 simp only [br, decide_eq_true_eq, decide_eq_false_iff_not]
 refine fun _ => ⟨fun hlt => ?_, fun hge => ?_⟩
 ·have hkn : k < D.cells.length := yT.1 hlt
  refine loopP_intro (fun j : Nat => (⟨[(5, .i j), (4, .i k), (0, .ptr 0 0 0), (3, .sl 2 0 ((opnA D k).length + j))], [fV 0 D, fC D, .arr 1 ((opnA D k ++ yN j k).map nE)], 0⟩ : St)) (fun j => j ≤ (D.op k).length) (fun j => (D.op k).length - j) 0 (yO _) ?_ ?_
  ·refine ⟨⟨rfl, rfl, rfl, rfl, trivial⟩, ⟨leB_refl _, leB_refl _, ?_, trivial⟩, ⟨trivial, trivial, trivial⟩, ⟨trivial, trivial, trivial, trivial, trivial⟩, ⟨⟨trivial, trivial, trivial, trivial, trivial⟩, rows_wf, trivial⟩⟩
   rw [List.replicate_zero, List.append_nil]; exact leB_refl _
  rintro j hj
  have hj : j ≤ (D.op k).length := hj
  unfold c33l1 fV fC
  have hkr : k < (rowsF D).length := by rw [rowsF_len]; exact hkn
  simp -implicitDefEqProofs only [rX,↓rY,ofConst,cells?,↓reduceIte,Nat.reduceEqDiff,arrSz,Nat.reduceAdd,reduceCtorEq,freshP,litsP,leE,leH,leB,leV,leVs,keepP,liveP,wfE,wfB,wfV,wfL,killE,killB,kill,kills,St.kill,isD,Nat.reduceLT,rowsF_get,rowF_65]
  have hal : (opnA D k).length ≤ k * 1000 := by
   have := opensL_len (D := D) (l := yC k) hb
   rwa [List.length_range] at this
  have hlk := hb k
  have hend : j = (D.op k).length → (lo .i64 ≤ (k : Int) + 1 ∧ (k : Int) + 1 ≤ Fx.hi .i64) ∧ ∃ g' : Nat, (g' ≤ D.cells.length ∧ D.cells.length - g' < D.cells.length - k) ∧ ((k : Int) + 1 = (g' : Int) ∧ V.sl 2 0 ((opnA D k).length + j) = V.sl 2 0 (opnA D g').length) ∧ Blk.arr 1 ((opnA D k ++ yN j k).map nE) = Blk.arr 1 ((opnA D g').map nE) ∧ wfL [fV 0 D, fC D, Blk.arr 1 ((opnA D g').map nE)] (rowsF D).flatten := by
   rintro rfl
   have e := opnA_s (D := D) (k := k)
   exact ⟨by simp only [lo, Fx.hi]; omega, k + 1, ⟨by omega, by omega⟩, ⟨by omega, by rw [e]; simp⟩, by rw [e], rows_wf⟩
  refine ⟨⟨by omega, hlt⟩, hkr, ?_⟩
  by_cases ho : D.op k = []
  ·have hj0 : j = 0 := by rw [ho] at hj; simpa using hj
   rw [opR, if_pos ho]
   simp -implicitDefEqProofs only [rX,↓rY]
   simp only [br, decide_eq_true_eq, decide_eq_false_iff_not]
   exact ⟨fun h => absurd h (by omega), fun _ => hend (by rw [ho, hj0]; rfl)⟩
  ·rw [opR, if_neg ho]
   simp -implicitDefEqProofs only [rX,↓rY]
   simp only [br, decide_eq_true_eq, decide_eq_false_iff_not]
   refine fun _ => ⟨fun h => ⟨by omega, by simp only [lo, Fx.hi]; omega, j + 1, ⟨by omega, by omega⟩, ⟨by omega, by congr 1⟩, ⟨by rw [rows_kill], ?_⟩, rows_wf⟩, fun h => hend (by omega)⟩
   rw [vD (by simp), List.replicate_succ', ← List.append_assoc, yQ (l₂ := [k])]
   rfl
 ·have hke : k = D.cells.length := by
   have : ¬ k < D.cells.length := fun h => hge (yT.2 h)
   omega
  subst hke
  rw [opnA_all, retP_eq]
  refine ⟨[fV 0 D, fC D, .arr 1 (D.opens.map nE)], ⟨leH_refl _, ⟨trivial, trivial, trivial⟩, by simp, trivial, ⟨⟨trivial, trivial, trivial, trivial, trivial⟩, rows_wf, trivial⟩⟩, rfl, rfl⟩
theorem ok33 (D : Dk) (hb : ∀ k, (D.op k).length ≤ 1000) (hn : D.cells.length ≤ 65536) : OkF 33 [.ptr 0 0 0] D (fun r D' => D' = D ∧ r = lnat D.opens) := by
 have h := ok33a D hb hn
 refine ⟨h.1, Fn_ghostN [0, 1] (fun k hk _ => ?_) (fun k hk => ?_) h.2 ?_⟩
 ·rw [fs_len] at hk
  have : k = 0 ∨ k = 1 := by omega
  rcases this with rfl | rfl <;> simp
 ·rw [fs_len]
  simp at hk ⊢
  omega
 rintro r hs ⟨rfl, rfl⟩
 refine ⟨⟨trivial, trivial, trivial⟩, _, _, ⟨D, ⟨rfl, rfl, rfl⟩, rfl⟩, yI _, ?_⟩
 refine ⟨_, .give (fun j => j == 2) (fun j hj => by simp at hj; rcases hj with rfl | rfl <;> rfl) (.refl _), ?_⟩
 have hbk : blk (fs 0 D ++ [Blk.arr 1 (D.opens.map nE)]) 2 = .arr 1 (D.opens.map nE) := rfl
 have hv : gvV (fun j => j == 2) (fs 0 D ++ [Blk.arr 1 (D.opens.map nE)]) (.sl 2 0 D.opens.length) = lnat D.opens := by
  simp only [gvV, beq_self_eq_true, if_true, hbk]
  rw [if_pos (by simp), List.drop_zero, vD (by simp)]; rfl
 have hg : ∀ H, gvH (fun j => j == 2) H 0 (fs 0 D ++ [Blk.arr 1 (D.opens.map nE)]) = [fV 0 D, fC D, .dead] := by
  intro H
  show [gvB (fun j => j == 2) H (fV 0 D), gvB (fun j => j == 2) H (fC D), .dead] = _
  simp only [gvB, fC, rows_gv]
  rfl
 show leS [0, 1] ⟨[(0, gvV _ _ _)], gvH (fun j => j == 2) _ 0 _, 0⟩ _
 rw [hg, hv]
 exact ⟨⟨rfl, trivial⟩, ⟨leB_refl _, leB_refl _, trivial⟩, ⟨trivial, trivial, trivial⟩, ⟨trivial, trivial⟩, ⟨⟨trivial, trivial, trivial, trivial, trivial⟩, rows_wf, trivial⟩⟩
set_option maxRecDepth 20000
theorem sec_ext {a b : Sec} (h : a.l = b.l) : a = b := by cases a; cases b; cases h; rfl
def setS (s : Sec) (i : Nat) (b : By) : Sec := ⟨s.l.set i b, by simp [s.h]⟩
theorem setS_enc {s : Sec} {i : Nat} {b : By} (hi : i < 64) : yS i s.enc ++ [encY b] ++ vA (i + 1) s.enc = (setS s i b).enc := by
 have hl : i < s.l.length := by rw [s.h]; exact hi
 have e : (setS s i b).enc = (s.l.set i b).map encY := rfl
 rw [e, Sec.enc, List.set_eq_take_append_cons_drop, if_pos hl, yQ, yJ, List.map_take, List.map_drop]
 simp
def mixS (o t : Sec) (i : Nat) : Sec := ⟨(yC 64).map fun j => if 32 ≤ j ∧ j < i then o.l.getD j 0 else t.l.getD j 0, by simp⟩
theorem mix_32 {o t : Sec} : mixS o t 32 = t := by
 apply sec_ext
 apply yU
 ·simp [mixS, t.h]
 ·intro j h1 h2
  simp only [mixS, vK, vL]
  rw [if_neg (by omega), yD, yK h2]; rfl
theorem mix_s {o t : Sec} {i : Nat} (h : 32 ≤ i) (hi : i < 64) : setS (mixS o t i) i (o.l[i]'(by rw [o.h]; exact hi)) = mixS o t (i + 1) := by
 apply sec_ext
 have ho : i < o.l.length := by rw [o.h]; exact hi
 apply yU
 ·simp [mixS, setS]
 ·intro j h1 h2
  have hj : j < 64 := by simpa [mixS] using h2
  simp only [mixS, setS, List.getElem_set, vK, vL]
  by_cases e : i = j
  ·subst e
   rw [if_pos rfl, if_pos ⟨h, by omega⟩, yD, yK ho]; rfl
  ·rw [if_neg e]
   have : (32 ≤ j ∧ j < i) = (32 ≤ j ∧ j < i + 1) := propext (by omega)
   simp only [this]
theorem mix_64 {o t : Sec} : mixS o t 64 = tornS o t := by
 apply sec_ext
 apply yU
 ·simp [mixS, tornS, o.h, t.h]
 ·intro j h1 h2
  have hj : j < 64 := by simpa [mixS] using h1
  have ho : j < o.l.length := by rw [o.h]; exact hj
  have ht : j < t.l.length := by rw [t.h]; exact hj
  simp only [mixS, tornS, vK, vL, List.getElem_append, List.length_take, t.h]
  by_cases e : j < 32
  ·rw [if_neg (by omega), dif_pos (by omega), List.getElem_take, yD, yK ht]; rfl
  ·rw [if_pos ⟨by omega, hj⟩, dif_neg (by omega), List.getElem_drop, yD, yK ho]
   show o.l[j] = _
   congr 1
   omega
theorem cz_d64 : vA 64 cz = [.b false, .nil] := rfl
theorem cz_t64 : yS 64 cz = zS.enc := rfl
theorem cz_d65 : vA 65 cz = [.nil] := rfl
theorem mk_row {s : Sec} {x : Bool} : s.enc ++ [V.v (.bool x), V.v (.slice none 0 0)] = rowF ⟨s, x⟩ [] := by
 rw [rowF, Cl.enc, List.append_assoc]; rfl
theorem rowF_mk {c : Cl} : c.enc ++ [V.v (.slice none 0 0)] = rowF c [] := rfl
theorem opR_nil : opR [] = .nil := rfl
theorem rowF_wfT {H : List Blk} {c : Cl} {l : List Sec} : wfL H (rowF c l) = True := eq_true rowF_wf
theorem cz_plain : ∀ x ∈ cz, ∃ u, x = V.v u := fun x hx => (List.mem_append.1 hx).elim (fun h => sec_plain x h) fun h => by simp at h; rcases h with rfl | rfl <;> exact ⟨_, rfl⟩
theorem kept_loop {o t : Sec} {e : Env} {b : Nat} {B0 : Blk} {X RR : St → Prop} (he : leE e [(9, .i 32), (7, .ptr 2 0 0), (8, .ptr 3 0 0), (4, .ptr 1 0 0)])
  (hX : X ⟨[(65, .b (decide (((64 : Nat) : Int) < 64))), (64, .i ((64 : Nat) : Int)), (9, .i ((64 : Nat) : Int)), (7, .ptr 2 0 0), (8, .ptr 3 0 0), (4, .ptr 1 0 0)], [.dead, .var cz, .var o.enc, .var (tornS o t).enc], 4⟩) :
  loopP [] (fun N => aw { C := C0 Try.prog, fx := [], it := I0 Try.prog, y := Y0 } c41l0 N (fun j s' => if j = 0 then X s' else False) RR) ⟨e, [B0, .var cz, .var o.enc, .var t.enc], b⟩ := by
 refine loopP_intro (fun i : Nat => (⟨[(9, .i i), (7, .ptr 2 0 0), (8, .ptr 3 0 0), (4, .ptr 1 0 0)], [.dead, .var cz, .var o.enc, .var (mixS o t i).enc], 0⟩ : St)) (fun i => 32 ≤ i ∧ i ≤ 64) (fun i => 64 - i) 32 (by omega) ?_ ?_
 ·rw [mix_32]
  exact ⟨he, ⟨trivial, leB_refl _, leB_refl _, leB_refl _, trivial⟩, trivial, ⟨trivial, trivial, trivial, trivial, trivial⟩, ⟨plain_wf cz_plain, sec_wf, sec_wf, trivial⟩⟩
 rintro i ⟨hi1, hi2⟩
 unfold c41l0
 have hob : ∀ h : i < 64, o.enc[i]? = some (encY (o.l[i]'(by rw [o.h]; exact h))) := fun h => by
  have hl : i < o.l.length := by rw [o.h]; exact h
  have := sec_get (s := o) (r := []) hl
  rwa [List.append_nil] at this
 simp -implicitDefEqProofs only [rX,↓rY,ofConst,cells?,splice,↓reduceIte,Nat.reduceEqDiff,Nat.reduceAdd,leE,leH,leB,keepP,liveP,wfE,wfB,wfV,Nat.reduceLeDiff,sec_len,Nat.mul_one]
 simp only [br, decide_eq_true_eq, decide_eq_false_iff_not]
 refine ⟨fun hlt => ?_, fun hge => ?_⟩
 ·have h64 : i < 64 := by omega
  rw [hob h64]
  simp -implicitDefEqProofs only [rX,↓rY,isC,encY]
  have hm := mix_s (o := o) (t := t) hi1 h64
  have hs := setS_enc (s := mixS o t i) (b := o.l[i]'(by rw [o.h]; exact h64)) h64
  simp only [encY] at hs
  refine ⟨⟨by omega, by omega⟩, ⟨by omega, by omega⟩, by omega, by simp only [lo, Fx.hi]; omega, i + 1, ⟨⟨by omega, by omega⟩, by omega⟩, by omega, ⟨leVs_rf _, leVs_rf _, ?_⟩, plain_wf cz_plain, sec_wf, sec_wf⟩
  rw [← hm, ← hs]
  exact leVs_rf _
 ·have hie : i = 64 := by omega
  subst hie
  rw [mix_64]
  exact hX
theorem ok41 (c : Cl) (l : List Sec) (x : Int) (h0 : l ≠ []) (hl : l.length ≤ 1000) (hz : c.bad = true → c = badC) : Ok 41 [.agg (rowF c l), .i x] (Is (.agg (rowF (foundC c l x) []))) := by
 have hl0 : 0 < l.length := vI.2 h0
 have hp := pickR_b (n := l.length) (x := x)
 have ht1 : x.tmod ((l.length : Int) + 3) < (l.length : Int) + 3 := Int.tmod_lt_of_pos _ (by omega)
 have ht2 : -((l.length : Int) + 3) < x.tmod ((l.length : Int) + 3) := Int.lt_tmod_of_pos _ (by omega)
 have hr : (x.tmod ((l.length : Int) + 3) + l.length + 3).tmod ((l.length : Int) + 3) = pickR l.length x := rfl
 refine ok_of lw41 (by simp) ?_
 unfold c41
 have hop : opR l = .ro 64 (l.map Sec.enc) := by rw [opR, if_neg h0]
 simp -implicitDefEqProofs only [rX,↓rY,ofConst,cells?,splice,↓reduceIte,Nat.reduceEqDiff,Nat.reduceAdd,reduceCtorEq,freshP,buildP,resP,tupV,wfV,Nat.reduceLeDiff,cxN,arr64,sec_len,sec_take,sec_C,sec_drop,cl_mk,n61,n62,args0,cz_arr,cz_map,cz_len,cz_d66,rowF_65,rowF_64,rowF_len,rowF_t,rowF_C,rowF_t66,hop,hr,cz_d64,cz_t64,cz_d65,mk_row,rowF_mk,opR_nil,rowF_d65,rowF_wfT]
 simp only [br, decide_eq_true_eq, decide_eq_false_iff_not, beq_iff_eq, beq_eq_false_iff_ne]
 have hf : foundC c l x = (if pickR l.length x = 0 then c else if pickR l.length x ≤ l.length then ⟨l.getD (pickR l.length x - 1).toNat zS, false⟩ else if pickR l.length x = l.length + 1 then badC else ⟨tornS (if 1 < l.length then l.getD (l.length - 2) zS else c.s) (l.getD (l.length - 1) zS), false⟩) := rfl
 refine fun _ => ⟨by simp only [lo, hi]; omega, by omega, by simp only [lo, hi]; omega, by simp only [lo, hi]; omega, by simp only [lo, hi]; omega, by omega, fun h => ?_, fun h => ⟨fun h2 => ⟨by simp only [lo, hi]; omega, ⟨by omega, by omega⟩, by omega, ?_⟩, fun h2 => ⟨by simp only [lo, hi]; omega, fun h3 => ?_, fun h3 => ⟨fun hb => ⟨fun h4 => ⟨by simp only [lo, hi]; omega, ⟨by omega, by omega⟩, by omega, by simp only [lo, hi]; omega, ⟨by omega, by omega⟩, by omega, ?_⟩, fun h4 => ⟨by simp only [lo, hi]; omega, ⟨by omega, by omega⟩, by omega, ?_⟩⟩, fun hb => ⟨fun h4 => ⟨by simp only [lo, hi]; omega, ⟨by omega, by omega⟩, by omega, by simp only [lo, hi]; omega, ⟨by omega, by omega⟩, by omega, ?_⟩, fun h4 => ⟨by simp only [lo, hi]; omega, ⟨by omega, by omega⟩, by omega, ?_⟩⟩⟩⟩⟩⟩
 ·rw [hf, if_pos h]
 ·rw [hf, if_neg h, if_pos h2, yD, yK (by omega)]; rfl
 ·rw [hf, if_neg h, if_neg h2, if_pos h3]
 all_goals
  refine kept_loop ⟨rfl, rfl, rfl, rfl, trivial⟩ ?_
  simp -implicitDefEqProofs only [rX,↓rY,cells?,splice,↓reduceIte,Nat.reduceEqDiff,Nat.reduceAdd,buildP,resP,tupV,wfV,Nat.reduceLeDiff,sec_len,sec_take,n62,cz_map,cz_len,cz_d66,rowF_C,rowF_t66,cz_d64,mk_row,rowF_wfT]
 all_goals
  have hg : ∀ (j : Int) (h : j.toNat < l.length), l.getD j.toNat zS = l[j.toNat] := fun j h => by rw [yD, yK h]; rfl
  have hg1 : ∀ (h : ((l.length : Int) - 1).toNat < l.length), l.getD (l.length - 1) zS = l[((l.length : Int) - 1).toNat] := fun h => by
   rw [← hg _ h]; congr 1; omega
  have hg2 : ∀ (h : ((l.length : Int) - 2).toNat < l.length), l.getD (l.length - 2) zS = l[((l.length : Int) - 2).toNat] := fun h => by
   rw [← hg _ h]; congr 1; omega
 ·rw [hf, if_neg h, if_neg h2, if_neg h3, if_pos (by omega), hg1 (by omega), hg2 (by omega)]
 ·rw [hf, if_neg h, if_neg h2, if_neg h3, if_neg (by omega), hg1 (by omega)]
 ·rw [hf, if_neg h, if_neg h2, if_neg h3, if_pos (by omega), hg1 (by omega), hg2 (by omega)]
 ·have : c.s = zS := by rw [hz (by simpa using hb)]
  rw [hf, if_neg h, if_neg h2, if_neg h3, if_neg (by omega), hg1 (by omega), this]
def raws (D : Dk) : List Blk := [.arv 66 (rowsF D), .var [.sl 0 0 D.n, .i D.steps, .i D.after, .b D.dead]]
theorem mvL_map {i j : Nat} {l : List V} : mvL i j l = l.map (mvV i j) := by
 induction l with
 | nil => rfl
 | cons x r ih => simp only [mvL, yJ, ih]
theorem rows_mv {i j : Nat} {D : Dk} : (rowsF D).map (mvL i j) = rowsF D := by
 rw [rowsF, List.map_map]
 refine yM fun k _ => ?_
 simp only [Function.comp]
 rw [mvL_map, rowF, yQ]
 congr 1
 ·have : ∀ l : List V, (∀ x ∈ l, ∃ u, x = .v u) → l.map (mvV i j) = l := by
   intro l
   induction l with
   | nil => intro _; rfl
   | cons x r ih =>
    intro h
    obtain ⟨u, rfl⟩ := h x yR
    rw [yJ, ih fun y hy => h y (yH _ hy)]; rfl
  exact this _ cl_plain
 ·simp only [yJ, List.map_nil, opR]
  split <;> rfl
theorem rows_new {n : Nat} : rowsF (newD n) = yN n cz := by
 apply yU
 ·simp [rowsF, newD]
 ·intro i h1 h2
  rw [rowsF_get, vP]
  have h3 : (newD n).cl i = zC := by
   show (yN n zC).getD i zC = zC
   rw [yD, vO]
   split <;> rfl
  rw [h3, new_op]; rfl
def rawM (n : Int) : V → List Blk → Prop := fun r h => if n < 1 ∨ 65536 < n then r = .v (.pointer none) ∧ h = [] else r = .ptr 1 0 0 ∧ h = raws (newD n.toNat)
theorem ok9a (n : Int) : Ok 9 [.i n] (rawM n) := by
 refine ok_of lw9 (by simp) ?_
 unfold c9
 simp -implicitDefEqProofs only [rX,↓rY,ofConst,cells?,splice,↓reduceIte,Nat.reduceEqDiff,Nat.reduceAdd,reduceCtorEq,freshP,buildP,Nat.reduceLeDiff,cxN,args0,cz_map]
 simp only [br, decide_eq_true_eq, decide_eq_false_iff_not, beq_iff_eq, beq_eq_false_iff_ne]
 have fin0 : ∀ (e : Env), get e 2 = .v (.pointer none) → (n < 1 ∨ 65536 < n) → retP [] 0 [LRes.tmp 2] (rawM n) ⟨e, [], 0⟩ := by
  intro e he h
  rw [retP_eq]
  simp only [resP, vJ, vB, vC, tupV, he]
  exact ⟨[], ⟨trivial, trivial, yI _, trivial, trivial⟩, by rw [rawM, if_pos h]; exact ⟨rfl, rfl⟩⟩
 refine ⟨fun h => fin0 _ rfl (.inl h), fun h => ⟨fun h2 => fin0 _ rfl (.inr h2), fun h2 => ?_⟩⟩
 refine ⟨⟨⟨by omega, by omega⟩, by omega, by omega⟩, ?_⟩
 have hn : (newD n.toNat).n = n.toNat := List.length_replicate ..
 rw [retP_eq]
 refine ⟨raws (newD n.toNat), ⟨⟨?_, ?_, trivial⟩, trivial, yO _, trivial, ⟨rows_wf, ⟨trivial, trivial, trivial, trivial, trivial⟩, trivial⟩⟩, ?_⟩
 ·rw [rows_new]; exact leB_refl _
 ·rw [hn]; exact leB_refl _
 rw [rawM, if_neg (by omega)]
 exact ⟨rfl, rfl⟩
theorem raws_leG {D : Dk} : leG [] ⟨[(0, .ptr 1 0 0)], raws D, 0⟩ ⟨[(0, .ptr 1 0 0)], .dead :: fs 1 D, 0⟩ := by
 refine ⟨_, .virt 1 1 (by decide) (.le (p := ⟨[(0, .ptr 1 0 0)], raws D ++ [.dead], 0⟩) ?_ (.mv 2 0 (.arv 66 (rowsF D)) (by decide) rfl rfl (by simp) (.refl _))), ?_⟩
 ·exact ⟨⟨rfl, trivial⟩, ⟨leB_refl _, leB_refl _, trivial, trivial⟩, trivial, ⟨trivial, trivial⟩, ⟨rows_wf, ⟨trivial, trivial, trivial, trivial, trivial⟩, trivial⟩⟩
 ·refine ⟨⟨rfl, trivial⟩, ⟨trivial, ⟨rfl, rfl, rfl, rfl, trivial⟩, ?_, trivial⟩, trivial, ⟨trivial, trivial⟩, ⟨⟨trivial, trivial, trivial, trivial, trivial⟩, rows_wf, trivial⟩⟩
  show leB (.arv 66 ((rowsF D).map (mvL 2 0))) (.arv 66 (rowsF D))
  rw [rows_mv]; exact leB_refl _
def rM (n : Int) : V → List Blk → Prop := fun r h => if n < 1 ∨ 65536 < n then r = .v (.pointer none) ∧ h = [] else r = .ptr 1 0 0 ∧ h = .dead :: fs 1 (newD n.toNat)
theorem ok9 (n : Int) : Ok 9 [.i n] (rM n) := by
 refine okN_ghost (ok9a n) ?_
 intro r hs h
 unfold rawM at h
 by_cases hn : n < 1 ∨ 65536 < n
 ·rw [if_pos hn] at h
  obtain ⟨rfl, rfl⟩ := h
  exact ⟨.v (.pointer none), [], by rw [rM, if_pos hn]; exact ⟨rfl, rfl⟩, _, .refl _, ⟨rfl, trivial⟩, trivial, trivial, ⟨trivial, trivial⟩, trivial⟩
 ·rw [if_neg hn] at h
  obtain ⟨rfl, rfl⟩ := h
  exact ⟨_, _, by rw [rM, if_neg hn]; exact ⟨rfl, rfl⟩, raws_leG⟩
def crD (D : Dk) (keep : List Int) : Dk := { newD D.cells.length with cells := crC D keep D.secs.length }
theorem crD_n {D : Dk} {keep : List Int} : (crD D keep).cells.length = D.cells.length := crC_len
theorem crD_op {D : Dk} {keep : List Int} {i : Nat} : (crD D keep).op i = [] := new_op
def cnt (D : Dk) (k : Nat) : Nat := ((yC k).filter fun i => !(D.op i).isEmpty).length
theorem cnt_s {D : Dk} {k : Nat} : cnt D (k + 1) = cnt D k + if D.op k = [] then 0 else 1 := by
 unfold cnt
 rw [List.range_succ, List.filter_append, List.length_append]
 by_cases h : D.op k = []
 ·simp [h]
 ·simp [h]
theorem cnt_le {D : Dk} {k : Nat} : cnt D k ≤ k := by
 have := List.length_filter_le (fun i => !(D.op i).isEmpty) (yC k)
 simpa [cnt] using this
theorem secs_cnt {D : Dk} {k : Nat} (hk : k < D.cells.length) (ho : D.op k ≠ []) : ∃ h : cnt D k < D.secs.length, D.secs[cnt D k] = k := by
 have h1 : yC D.cells.length = yC k ++ k :: List.range' (k + 1) (D.cells.length - (k + 1)) := by
  rw [vQ, vQ, ← List.range'_succ, show D.cells.length - (k + 1) + 1 = D.cells.length - k by omega]
  have := List.range'_append_1 (s := 0) (m := k) (n := D.cells.length - k)
  rw [vE] at this
  rw [this, show k + (D.cells.length - k) = D.cells.length by omega]
 have h2 : D.secs = (yC k).filter (fun i => !(D.op i).isEmpty) ++ k :: (List.range' (k + 1) (D.cells.length - (k + 1))).filter (fun i => !(D.op i).isEmpty) := by
  unfold Dk.secs
  rw [h1, List.filter_append, List.filter_cons_of_pos (by simpa using ho)]
 refine ⟨by rw [h2]; simp [cnt], ?_⟩
 simp only [h2]
 rw [List.getElem_append_right (by simp [cnt])]
 simp [cnt]
theorem crD_cl {D : Dk} {keep : List Int} {i : Nat} (hi : i < D.cells.length) : (crD D keep).cl i = if D.op i = [] then D.cl i else foundC (D.cl i) (D.op i) (kx keep (cnt D i)) := by
 by_cases h : D.op i = []
 ·rw [if_pos h]
  exact crC_no (fun hm => (secs_mem.1 (List.mem_of_mem_take hm)).2 h) (yI _)
 ·rw [if_neg h]
  obtain ⟨h1, h2⟩ := secs_cnt hi h
  have := crC_yes (D := D) (keep := keep) h1 h1 (yI _)
  rw [h2] at this
  exact this
def partD (D : Dk) (keep : List Int) (k : Nat) : Dk := { newD D.cells.length with cells := (yC D.cells.length).map fun i => if i < k then (crD D keep).cl i else zC }
theorem part_n {D : Dk} {keep : List Int} {k : Nat} : (partD D keep k).cells.length = D.cells.length := by simp [partD]
theorem part_op {D : Dk} {keep : List Int} {k i : Nat} : (partD D keep k).op i = [] := new_op
theorem part_cl {D : Dk} {keep : List Int} {k i : Nat} (hi : i < D.cells.length) : (partD D keep k).cl i = if i < k then (crD D keep).cl i else zC := by
 show ((yC D.cells.length).map fun i => if i < k then (crD D keep).cl i else zC).getD i zC = _
 rw [yD, yL, yX hi]; rfl
theorem part_0 {D : Dk} {keep : List Int} : rowsF (partD D keep 0) = yN D.cells.length cz := by
 apply yU
 ·simp [rowsF, part_n]
 ·intro i h1 h2
  rw [rowsF_get, vP, part_op, part_cl (by simpa using h2), if_neg (by omega)]; rfl
theorem part_s {D : Dk} {keep : List Int} {k : Nat} (hk : k < D.cells.length) {v : List V} (hv : v = rowF ((crD D keep).cl k) []) : (rowsF (partD D keep k)).set k v = rowsF (partD D keep (k + 1)) := by
 refine rowsF_set (by rw [part_n, part_n]) (by rw [part_n]; exact hk) ?_ fun j hj => ?_
 ·rw [hv, part_op, part_cl hk, if_pos (by omega)]
 ·by_cases hjn : j < D.cells.length
  ·have e : (j < k + 1) = (j < k) := propext (by omega)
   simp only [part_op, part_cl hjn, e]
  ·have h2 : ∀ m, (partD D keep m).cl j = zC := fun m => by
    unfold Dk.cl
    rw [yD, yZ (by rw [part_n]; omega)]; rfl
   rw [part_op, part_op, h2, h2]
theorem part_n' {D : Dk} {keep : List Int} : rowsF (partD D keep D.cells.length) = rowsF (crD D keep) := by
 unfold rowsF
 rw [part_n, crD_n]
 refine yM fun j hj => ?_
 rw [yY] at hj
 rw [part_op, crD_op, part_cl hj, if_pos hj]
set_option maxRecDepth 20000
theorem rowF_lend {H : List Blk} {g : Nat → Option Nat} {c : Cl} {l : List Sec} : lendsOk H g (rowF c l) ∧ wkL (rowF c l) (lends H g (rowF c l)) := by
 have ho : lendOk H g (opR l) ∧ wk (opR l) (lend H g (opR l)) := by
  unfold opR
  split
  ·exact ⟨trivial, rfl⟩
  ·exact ⟨trivial, by simp [lend, wk, wkR]⟩
 have : ∀ x : List V, (∀ y ∈ x, ∃ u, y = .v u) → lendsOk H g (x ++ [opR l]) ∧ wkL (x ++ [opR l]) (lends H g (x ++ [opR l])) := by
  intro x
  induction x with
  | nil => intro _; exact ⟨⟨ho.1, trivial⟩, ho.2, trivial⟩
  | cons y r ih =>
   intro h
   obtain ⟨u, rfl⟩ := h y yR
   obtain ⟨h1, h2⟩ := ih fun z hz => h z (yH _ hz)
   exact ⟨⟨trivial, h1⟩, rfl, h2⟩
 exact this _ cl_plain
theorem ok30a (D : Dk) (keep : List Int) (hz : BadZ D) (hn : 1 ≤ D.cells.length ∧ D.cells.length ≤ 65536) (hb : ∀ k, (D.op k).length ≤ 1000) : OkN Try.prog 30 [.ptr 0 0 0, .bro 1 (keep.map encI)] (fs 0 D) [] (fun r h => r = .ptr 3 0 0 ∧ h = [fV 0 D, fC D, .arv 66 (rowsF (crD D keep)), .var [.sl 2 0 D.n, .i 0, .i (-1), .b false]]) := by
 refine okN_of pol [0, 1] lw30 (by simp) ⟨trivial, trivial, trivial⟩ (fun k hk _ => ?_) ?_
 ·rw [fs_len] at hk
  have : k = 0 ∨ k = 1 := by omega
  rcases this with rfl | rfl <;> simp
 rw [fs_len]
 show aw _ _ _ _ _ ⟨_, [fV 0 D, fC D], 0⟩
 unfold c30 fV fC
 simp -implicitDefEqProofs only [rX,↓rY,ofConst,cells?,splice,↓reduceIte,Nat.reduceAdd,reduceCtorEq,freshP,buildP,Nat.reduceLeDiff,cxN,args0,cz_map]
 refine fun _ => ⟨⟨⟨by omega, by omega⟩, by show ((96 : Nat) : Int) * (D.cells.length : Int) ≤ _; omega, by show (D.cells.length : Int) ≤ _; omega⟩, ?_⟩
 refine loopP_intro (fun k : Nat => (⟨[(7, .i k), (6, .i (cnt D k)), (5, .ptr 3 0 0), (0, .ptr 0 0 0), (1, .bro 1 (keep.map encI))], [fV 0 D, fC D, .arv 66 (rowsF (partD D keep k)), .var [.sl 2 0 D.n, .i 0, .i (-1), .b false]], 0⟩ : St)) (fun k => k ≤ D.cells.length) (fun k => D.cells.length - k) 0 (yO _) ?_ ?_
 ·refine ⟨⟨rfl, rfl, rfl, rfl, rfl, trivial⟩, ⟨leB_refl _, leB_refl _, ?_, leB_refl _, trivial⟩, ⟨trivial, trivial, trivial⟩, ⟨trivial, trivial, trivial, trivial, trivial, trivial⟩, ⟨⟨trivial, trivial, trivial, trivial, trivial⟩, rows_wf, rows_wf, ⟨trivial, trivial, trivial, trivial, trivial⟩, trivial⟩⟩
  rw [part_0]; exact leB_refl _
 rintro k hk
 have hk : k ≤ D.cells.length := hk
 have hpl : (rowsF (partD D keep k)).length = D.cells.length := by rw [rowsF_len, part_n]
 unfold c30l0 fV fC
 simp -implicitDefEqProofs only [rX,↓rY,rZ,rdK,ofConst,cells?,splice,↓reduceIte,Nat.reduceEqDiff,arrSz,Nat.reduceAdd,reduceCtorEq,leE,leH,leB,leV,leVs,keepP,liveP,wfE,wfB,wfV,wfL,rowsF_get,rowF_65,rowF_len,rowF_t66,rowF_C,rowF_d66]
 simp only [br, decide_eq_true_eq, decide_eq_false_iff_not]
 refine fun _ => ⟨fun hlt => ?_, fun hge => ?_⟩
 ·have hkn : k < D.cells.length := yT.1 hlt
  have hkr : k < (rowsF D).length := by rw [rowsF_len]; exact hkn
  have hcn := cnt_le (D := D) (k := k)
  have hbk := hb k
  refine ⟨⟨by omega, hlt⟩, hkr, ?_⟩
  have hcl := crD_cl (keep := keep) hkn
  have hcs := cnt_s (D := D) (k := k)
  have hnx : ∀ (X : List (List V)) (m : Int), X = rowsF (partD D keep (k + 1)) → m = (cnt D (k + 1) : Nat) → (lo .i64 ≤ (k : Int) + 1 ∧ (k : Int) + 1 ≤ Fx.hi .i64) ∧ ∃ g' : Nat, (g' ≤ D.cells.length ∧ D.cells.length - g' < D.cells.length - k) ∧ ((k : Int) + 1 = (g' : Int) ∧ m = (cnt D g' : Nat)) ∧ Blk.arv 66 X = Blk.arv 66 (rowsF (partD D keep g')) ∧ wfL [fV 0 D, fC D, .arv 66 (rowsF (partD D keep g')), .var [.sl 2 0 D.n, .i 0, .i (-1), .b false]] (rowsF D).flatten ∧ wfL [fV 0 D, fC D, .arv 66 (rowsF (partD D keep g')), .var [.sl 2 0 D.n, .i 0, .i (-1), .b false]] (rowsF (partD D keep g')).flatten := by
   rintro X m rfl rfl
   exact ⟨by simp only [lo, Fx.hi]; omega, k + 1, ⟨by omega, by omega⟩, ⟨by omega, rfl⟩, rfl, rows_wf, rows_wf⟩
  by_cases ho : D.op k = []
  ·rw [if_pos ho] at hcl hcs
   rw [opR, if_pos ho]
   simp -implicitDefEqProofs only [rX,↓rY]
   refine ⟨fun _ => ⟨⟨by omega, hlt⟩, hkr, ⟨by omega, hlt⟩, by rw [hpl]; exact hkn, hnx _ _ (part_s hkn (by rw [hcl, ho])) (by rw [hcs]; rfl)⟩, fun h => absurd h (by decide)⟩
  ·rw [if_neg ho] at hcl hcs
   rw [opR, if_neg ho]
   have hl0 : 0 < (D.op k).length := vI.2 ho
   have hz0 : (((D.op k).length : Int) == 0) = false := by rw [beq_eq_false_iff_ne]; omega
   have hcall : ∀ x, Ok 41 [.agg (rowF (D.cl k) (D.op k)), .i x] (Is (.agg (rowF (foundC (D.cl k) (D.op k) x) []))) := fun x => ok41 _ _ x ho hbk (hz.z k)
   simp -implicitDefEqProofs only [rX,↓rY,hz0]
   have hfin : ∀ x, x = kx keep (cnt D k) → (((cnt D k : Nat) : Int) + 1 = (cnt D (k + 1) : Nat) ∧ (rowsF (partD D keep k)).set k (rowF (foundC (D.cl k) (D.op k) x) []) = rowsF (partD D keep (k + 1))) := fun x hx => ⟨by rw [hcs]; rfl, part_s hkn (by rw [hcl, hx])⟩
   refine fun _ => ⟨fun h => h.elim, fun _ hmk => ⟨fun h2 _ => ⟨by omega, ⟨by rw [vM (by omega)]; exact Int.emod_nonneg _ (by omega), Int.tmod_lt_of_pos _ h2⟩, ?_, ⟨by omega, hlt⟩, hkr, ?_⟩, fun h2 => ?_⟩⟩
   ·rw [vM (by omega)]
    have := Int.emod_lt_of_pos ((cnt D k : Nat) : Int) h2
    have := Int.emod_nonneg ((cnt D k : Nat) : Int) (show (keep.length : Int) ≠ 0 by omega)
    omega
   ·have hx1 : ∀ hx', keep[(((cnt D k : Nat) : Int).tmod keep.length).toNat]'hx' = kx keep (cnt D k) := fun hx' => by
     have h0 : keep ≠ [] := fun e => by rw [e] at h2; simp at h2
     rw [kx, if_neg h0, yD]
     have e : (((cnt D k : Nat) : Int).tmod keep.length).toNat = cnt D k % keep.length := by
      rw [vM (by omega)]; omega
     rw [← e, yK hx']; rfl
    simp only [hx1]
    refine call_is (hcall (kx keep (cnt D k))) ⟨⟨rowF_lend.1, trivial, trivial⟩, rowF_lend.2, rfl, trivial⟩ ?_ ⟨trivial, trivial, trivial⟩ ?_
    ·exact congrArg V.agg rowF_ren
    ·simp -implicitDefEqProofs only [rX,↓rY,ofConst,cells?,splice,↓reduceIte,Nat.reduceEqDiff,arrSz,Nat.reduceAdd,reduceCtorEq,leE,leH,leB,leV,leVs,keepP,liveP,wfE,wfB,wfV,wfL,rowF_len,rowF_C,rowF_d66,rowsF_get]
     exact ⟨⟨by omega, hlt⟩, by rw [hpl]; exact hkn, by simp only [lo, Fx.hi]; omega, hnx _ _ (hfin _ rfl).2 (hfin _ rfl).1⟩
   ·have hx0 : (0 : Int) = kx keep (cnt D k) := by
     have h0 : keep = [] := List.length_eq_zero_iff.1 (by omega)
     rw [kx, if_pos h0]
    refine ⟨⟨by omega, hlt⟩, hkr, ?_⟩
    refine call_is (hcall 0) ⟨⟨rowF_lend.1, trivial, trivial⟩, rowF_lend.2, rfl, trivial⟩ ?_ ⟨trivial, trivial, trivial⟩ ?_
    ·exact congrArg V.agg rowF_ren
    ·simp -implicitDefEqProofs only [rX,↓rY,ofConst,cells?,splice,↓reduceIte,Nat.reduceEqDiff,arrSz,Nat.reduceAdd,reduceCtorEq,leE,leH,leB,leV,leVs,keepP,liveP,wfE,wfB,wfV,wfL,rowF_len,rowF_C,rowF_d66,rowsF_get]
     exact ⟨⟨by omega, hlt⟩, by rw [hpl]; exact hkn, by simp only [lo, Fx.hi]; omega, hnx _ _ (hfin _ hx0).2 (hfin _ hx0).1⟩
 ·have hke : k = D.cells.length := by
   have : ¬ k < D.cells.length := fun h => hge (yT.2 h)
   omega
  subst hke
  rw [part_n', retP_eq]
  exact ⟨_, ⟨leH_refl _, ⟨trivial, trivial, trivial⟩, by simp, trivial, ⟨⟨trivial, trivial, trivial, trivial, trivial⟩, rows_wf, rows_wf, ⟨trivial, trivial, trivial, trivial, trivial⟩, trivial⟩⟩, rfl, rfl⟩
theorem ok30 (D : Dk) (keep : List Int) (hz : BadZ D) (hn : 1 ≤ D.cells.length ∧ D.cells.length ≤ 65536) (hb : ∀ k, (D.op k).length ≤ 1000) : OkN Try.prog 30 [.ptr 0 0 0, .bro 1 (keep.map encI)] (fs 0 D) [] (fun r h => r = .ptr 3 0 0 ∧ h = fs 0 D ++ .dead :: fs 3 (crD D keep)) := by
 have h := ok30a D keep hz hn hb
 refine ⟨h.1, Fn_ghostN [0, 1] (fun k hk _ => ?_) (fun k hk => ?_) h.2 ?_⟩
 ·rw [fs_len] at hk
  have : k = 0 ∨ k = 1 := by omega
  rcases this with rfl | rfl <;> simp
 ·rw [fs_len]
  simp at hk ⊢
  omega
 rintro r hs ⟨rfl, rfl⟩
 refine ⟨⟨trivial, trivial, trivial⟩, _, _, ⟨rfl, rfl⟩, by simp [fs], ?_⟩
 have hcn : (crD D keep).n = D.n := crD_n
 refine ⟨_, .virt 1 1 (by decide) (.le (p := ⟨[(0, .ptr 3 0 0)], [fV 0 D, fC D, .arv 66 (rowsF (crD D keep)), .var [.sl 2 0 D.n, .i 0, .i (-1), .b false], .dead], 0⟩) ?_ (.mv 4 2 (.arv 66 (rowsF (crD D keep))) (by decide) rfl rfl (by simp) (.refl _))), ?_⟩
 ·exact ⟨⟨rfl, trivial⟩, ⟨leB_refl _, leB_refl _, leB_refl _, leB_refl _, trivial, trivial⟩, ⟨trivial, trivial, trivial⟩, ⟨trivial, trivial⟩, ⟨⟨trivial, trivial, trivial, trivial, trivial⟩, rows_wf, rows_wf, ⟨trivial, trivial, trivial, trivial, trivial⟩, trivial⟩⟩
 ·refine ⟨⟨rfl, trivial⟩, ⟨⟨rfl, rfl, rfl, rfl, trivial⟩, ?_, trivial, ?_, ?_, trivial⟩, ⟨trivial, trivial, trivial⟩, ⟨trivial, trivial⟩, ⟨⟨trivial, trivial, trivial, trivial, trivial⟩, rows_wf, ⟨trivial, trivial, trivial, trivial, trivial⟩, rows_wf, trivial⟩⟩
  ·show leB (.arv 66 ((rowsF D).map (mvL 4 2))) (.arv 66 (rowsF D))
   rw [rows_mv]; exact leB_refl _
  ·show leB (.var [.sl 4 0 D.n, .i 0, .i (-1), .b false]) (.var [.sl 4 0 (crD D keep).n, .i 0, .i (-1), .b false])
   rw [hcn]; exact leB_refl _
  ·show leB (.arv 66 ((rowsF (crD D keep)).map (mvL 4 2))) (.arv 66 (rowsF (crD D keep)))
   rw [rows_mv]; exact leB_refl _
theorem ok26 (l : List Nat) (hl : l.length < 4611686018427387904) : Ok 26 [lnat l, lnat l] (Is (.b true)) := by
 refine ok_of lw26 (by simp) ?_
 unfold c26 lnat
 simp -implicitDefEqProofs only [rX,↓rY,ofConst,↓reduceIte,Nat.reduceEqDiff,reduceCtorEq,resP,tupV,wfV,cxN,args0]
 simp only [br, decide_eq_true_eq, decide_eq_false_iff_not, bne_iff_ne, bne_eq_false_iff_eq]
 refine fun _ _ => ⟨fun h => absurd rfl h, fun _ => ?_⟩
 refine loopP_intro (fun k : Nat => (⟨[(5, .i k), (0, .ro 1 (l.map nE)), (1, .ro 1 (l.map nE))], [], 0⟩ : St)) (fun k => k ≤ l.length) (fun k => l.length - k) 0 (yO _) ?_ ?_
 ·exact ⟨⟨rfl, rfl, rfl, trivial⟩, trivial, trivial, ⟨trivial, trivial, trivial, trivial⟩, trivial⟩
 rintro k hk
 have hk : k ≤ l.length := hk
 have ey : ∀ x : Nat, (nE x)[0]? = some (.i x) := fun _ => rfl
 have hne : ∀ x : Int, (x != x) = false := by simp
 unfold c26l0
 simp -implicitDefEqProofs only [rX,↓rY,ofConst,↓reduceIte,Nat.reduceEqDiff,reduceCtorEq,resP,tupV,leE,leH,keepP,wfE,wfB,wfV,ey,hne]
 simp only [br, decide_eq_true_eq, decide_eq_false_iff_not]
 refine fun _ => ⟨fun hlt => ?_, fun hge => trivial⟩
 have hl2 : (l.length : Int) < 4611686018427387904 := by omega
 exact ⟨⟨by omega, hlt⟩, by omega, ⟨by omega, hlt⟩, by omega, by simp only [lo, Fx.hi]; omega, k + 1, ⟨by omega, by omega⟩, by omega⟩
end Go.Fx.D
namespace Go.Fx
open Go.RowKit
theorem get_app_r : ∀ {a b : Env} {i : Nat}, (∀ p ∈ a, p.1 ≠ i) → get (a ++ b) i = get b i
 | [], _, _, _ => rfl
 | (j, x) :: r, b, i, h => by
  have hj : j ≠ i := h (j, x) (by simp)
  show (if i = j then x else get (r ++ b) i) = _
  rw [if_neg (Ne.symm hj)]
  exact get_app_r fun p hp => h p (by simp [hp])
theorem get_none : ∀ {a : Env} {i : Nat}, (∀ p ∈ a, p.1 ≠ i) → get a i = .any
 | [], _, _ => rfl
 | (j, x) :: r, i, h => by
  have hj : j ≠ i := h (j, x) (by simp)
  show (if i = j then x else get r i) = _
  rw [if_neg (Ne.symm hj)]
  exact get_none fun p hp => h p (by simp [hp])
theorem get_app_l : ∀ {a b : Env} {i : Nat}, (∀ p ∈ b, p.1 ≠ i) → get (a ++ b) i = get a i
 | [], b, i, h => get_none h
 | (j, x) :: r, b, i, h => by
  show (if i = j then x else get (r ++ b) i) = (if i = j then x else get r i)
  rw [get_app_l h]
theorem get_mapf {f : Nat → Nat} (hf : ∀ i j, f i = f j → i = j) : ∀ (a : Env) (i : Nat), get (a.map fun p => (f p.1, p.2)) (f i) = get a i
 | [], _ => rfl
 | (j, x) :: r, i => by
  show (if f i = f j then x else get (r.map fun p => (f p.1, p.2)) (f i)) = (if i = j then x else get r i)
  rw [get_mapf hf r i]
  by_cases h : i = j
  ·subst h; simp
  ·rw [if_neg h, if_neg fun e => h (hf _ _ e)]
theorem toEnv_get : ∀ (E : Tr) (i : Nat), get E.toEnv i = E.get i
 | .lf, _ => rfl
 | .nd v l r, 0 => rfl
 | .nd v l r, j + 1 => by
  show (if j + 1 = 0 then v else get (l.toEnv.map (fun p => (2 * p.1 + 1, p.2)) ++ r.toEnv.map (fun p => (2 * p.1 + 2, p.2))) (j + 1)) = _
  rw [if_neg (by omega)]
  simp only [Tr.get]
  split
  ·rename_i hj
   rw [get_app_l (by rintro p hp; obtain ⟨q, _, rfl⟩ := yE.1 hp; simp; omega), show j + 1 = 2 * (j / 2) + 1 by omega, get_mapf (f := fun i => 2 * i + 1) (by intros; simp at *; omega)]
   exact toEnv_get l _
  ·rename_i hj
   rw [get_app_r (by rintro p hp; obtain ⟨q, _, rfl⟩ := yE.1 hp; simp; omega), show j + 1 = 2 * (j / 2) + 2 by omega, get_mapf (f := fun i => 2 * i + 2) (by intros; simp at *; omega)]
   exact toEnv_get r _
mutual
theorem wfVB_ok {h : List Blk} : ∀ x : V, wfVB h x = true → wfV h x
 | .sl k _ _, hx => live_of (by simpa [wfVB] using hx)
 | .ptr k _ _, hx => live_of (by simpa [wfVB] using hx)
 | .mp k, hx => live_of (by simpa [wfVB] using hx)
 | .itr k, hx => live_of (by simpa [wfVB] using hx)
 | .agg cs, hx => wfLB_ok cs (by simpa [wfVB] using hx)
 | .tup cs, hx => wfLB_ok cs (by simpa [wfVB] using hx)
 | .clo _ cs, hx => wfLB_ok cs (by simpa [wfVB] using hx)
 | .any, _ | .v _, _ | .ro _ _, _ | .bro _ _, _ | .full _ _, _ | .rp _ _ _ _, _ => by simp [wfV]
theorem wfLB_ok {h : List Blk} : ∀ xs : List V, wfLB h xs = true → wfL h xs
 | [], _ => trivial
 | x :: r, hx => by
  simp only [wfLB, yB] at hx
  exact ⟨wfVB_ok x hx.1, wfLB_ok r hx.2⟩
end
theorem wfEB_ok {h : List Blk} : ∀ e : Env, wfEB h e = true → wfE h e
 | [], _ => trivial
 | (_, x) :: r, hx => by
  simp only [wfEB, yB] at hx
  exact ⟨wfVB_ok x hx.1, wfEB_ok r hx.2⟩
theorem wfBB_ok {h : List Blk} : ∀ l : List Blk, wfBB h l = true → wfB h l
 | [], _ => trivial
 | .var cs :: r, hx => by simp only [wfBB, yB] at hx; exact ⟨wfLB_ok _ hx.1, wfBB_ok r hx.2⟩
 | .dead :: r, hx => wfBB_ok r (by simpa [wfBB] using hx)
 | .arr _ _ :: r, hx => wfBB_ok r (by simpa [wfBB] using hx)
 | .arv _ els :: r, hx => by simp only [wfBB, yB] at hx; exact ⟨wfLB_ok _ hx.1, wfBB_ok r hx.2⟩
 | .map es _ :: r, hx => by simp only [wfBB, yB] at hx; exact ⟨wfLB_ok _ hx.1, wfBB_ok r hx.2⟩
 | .it m _ _ _ :: r, hx => by simp only [wfBB, yB] at hx; exact ⟨wfVB_ok _ hx.1, wfBB_ok r hx.2⟩
 | .rcd _ e :: r, hx => by simp only [wfBB, yB] at hx; exact ⟨wfEB_ok _ hx.1, wfBB_ok r hx.2⟩
theorem Tr.wf_ok {h : List Blk} : ∀ (E : Tr), E.wf h = true → ∀ i, wfV h (E.get i)
 | .lf, _, _ => trivial
 | .nd v l r, hx, i => by
  simp only [Tr.wf, yB] at hx
  cases i with
  | zero => exact wfVB_ok v hx.1
  | succ j =>
   simp only [Tr.get]
   split
   ·exact Tr.wf_ok l hx.2.1 _
   ·exact Tr.wf_ok r hx.2.2 _
theorem leTB_ok : ∀ (E E' : Tr), leTB E E' = true → ∀ i, E'.get i = .any ∨ E'.get i = E.get i
 | _, .lf, _, i => .inl rfl
 | .nd v l r, .nd v' l' r', h, i => by
  simp only [leTB, yB] at h
  cases i with
  | zero =>
   show v' = .any ∨ v' = v
   have h1 := h.1.1
   split at h1
   ·exact .inl rfl
   ·exact .inr (eqV_ok h1).symm
  | succ j =>
   simp only [Tr.get]
   split
   ·exact leTB_ok l l' h.1.2 _
   ·exact leTB_ok r r' h.2 _
 | .lf, .nd v' l' r', h, i => by
  simp only [leTB, yB] at h
  cases i with
  | zero =>
   show v' = .any ∨ v' = .any
   have h1 := h.1.1
   split at h1
   ·exact .inl rfl
   ·cases h1
  | succ j =>
   simp only [Tr.get]
   split
   ·exact leTB_ok .lf l' h.1.2 _
   ·exact leTB_ok .lf r' h.2 _
theorem leVsB_ok : ∀ {xs ys : List V}, leVsB xs ys = true → leVs xs ys
 | [], [], _ => trivial
 | x :: xs, y :: ys, h => by
  simp only [leVsB, yB] at h
  refine ⟨?_, leVsB_ok h.2⟩
  have h1 := h.1
  unfold leV
  split at h1
  ·trivial
  ·have := eqV_ok h1
   subst this
   split <;> trivial
 | [], _ :: _, h => by simp [leVsB] at h
 | _ :: _, [], h => by simp [leVsB] at h
theorem leBB_ok {b c : Blk} (h : leBB b c = true) : leB b c := by
 unfold leBB at h
 unfold leB
 split at h
 ·trivial
 ·split at h
  ·exact leVsB_ok h
  ·cases h
 ·split
  ·trivial
  ·rename_i hne; exact (hne _ rfl).elim
  ·have := eqB_ok h
   subst this
   exact ⟨rfl, .inl rfl⟩
  ·exact eqB_ok h
theorem leHB_ok : ∀ {h p : List Blk}, leHB h p = true → leH h p
 | _, [], _ => by unfold leH; trivial
 | b :: h, c :: p, hx => by
  simp only [leHB, yB] at hx
  exact ⟨leBB_ok hx.1, leHB_ok hx.2⟩
 | [], _ :: _, hx => by simp [leHB] at hx
section
variable {P : Program} {ρ0 : Nat → Loc} {X : Nat → Prop} {w0 : World} {fx : List Nat} {N : Nat}
def GoodT (ρ0 : Nat → Loc) (X : Nat → Prop) (w0 : World) (fx : List Nat) (N : Nat) (p : Pt) (a : Act) (w : World) : Prop :=
 ∃ e b, (∀ i, get e i = p.1.get i) ∧ Good ρ0 X w0 fx N ⟨e, p.2, b⟩ a w
theorem GoodT.le {p q : Pt} {a : Act} {w : World} (hE : ∀ i, q.1.get i = .any ∨ q.1.get i = p.1.get i) (l2 : leH p.2 q.2) (l3 : keepP fx q.2) (l4 : ∀ i, wfV q.2 (q.1.get i)) (l5 : wfB q.2 q.2) (h : GoodT ρ0 X w0 fx N p a w) : GoodT ρ0 X w0 fx N q a w := by
 obtain ⟨e, b, he, ρ, ⟨⟨hf, h1⟩, hk⟩, ⟨hr, hre⟩, h5, h6⟩ := h
 refine ⟨q.1.toEnv, 0, toEnv_get _, dropLoc ρ q.2, ⟨⟨hf.trans drop_fr, fun k hk' => by rw [live_loc (keepP_get l3 k hk')]; exact h1 k hk'⟩, l3⟩, ⟨dropRep hr l2 l5, fun i => ?_⟩, h5, h6.fr drop_fr⟩
 rw [toEnv_get]
 rcases hE i with hg | hg
 ·rw [hg]; trivial
 ·exact drop_rep _ _ (l4 i) (by rw [hg, ← he]; exact hre i)
theorem joinD_ok {outs ps : List Pt} (h : joinD fx outs = some ps) {q : Pt} (hq : q ∈ outs) {a : Act} {w : World} (hg : GoodT ρ0 X w0 fx N q a w) : ∃ p ∈ ps, GoodT ρ0 X w0 fx N p a w := by
 unfold joinD at h
 split at h
 ·simp at hq
 ·simp only [yA] at h
  subst h
  exact ⟨q, hq, hg⟩
 ·simp only at h
  split at h
  ·rename_i hc
   simp only [yA] at h
   subst h
   simp only [yB, yV] at hc
   obtain ⟨h1, h2, h3, h4⟩ := hc
   obtain ⟨h5, h6⟩ := h1 q hq
   exact ⟨_, yF _, hg.le (leTB_ok _ _ h5) (leHB_ok h6) (keep_of h2) (Tr.wf_ok _ h3) (wfBB_ok _ h4)⟩
  ·cases h
theorem goL_ok {α β : Type} {f : α → Option (List β)} : ∀ {xs : List α} {ys : List β}, goL f xs = some ys → ∀ x ∈ xs, ∃ zs, f x = some zs ∧ ∀ z ∈ zs, z ∈ ys
 | [], _, _, x, hx => by simp at hx
 | [y], ys, h, x, hx => by
  simp only [vN] at hx
  subst hx
  exact ⟨ys, h, fun _ h => h⟩
 | y :: y2 :: r, ys, h, x, hx => by
  simp only [goL] at h
  split at h
  ·rename_i a b h1 h2
   simp only [yA] at h
   subst h
   rcases yP.1 hx with rfl | hx
   ·exact ⟨a, h1, fun z hz => vR _ hz⟩
   ·obtain ⟨zs, h3, h4⟩ := goL_ok h2 x hx
    exact ⟨zs, h3, fun z hz => vF _ (h4 z hz)⟩
  ·cases h
theorem bindL_ok {α β : Type} {l : Option (List α)} {f : α → Option (List β)} {ys : List β} (h : bindL l f = some ys) : ∃ xs, l = some xs ∧ ∀ x ∈ xs, ∃ zs, f x = some zs ∧ ∀ z ∈ zs, z ∈ ys := by
 unfold bindL at h
 split at h
 ·cases h
 ·exact ⟨_, rfl, goL_ok h⟩
def AT (b : Nat) (q : Pt) (K : St → Prop) : Prop := ∀ e, (∀ i, get e i = q.1.get i) → K ⟨e, q.2, b⟩
def YdOk (y : Nat → YtD) (yy : Nat → Yt) : Prop := ∀ (k : Nat) (xs : List V) (s : St) (E : Tr) (rs : List (V × Pt)) (Z : V → St → Prop), (∀ i, get s.e i = E.get i) → y k xs (E, s.h) = some rs → (∀ r ∈ rs, AT s.b r.2 (Z r.1)) → yy k xs s Z
section
variable {C : Ctr} {it : Itr} {yy : Nat → Yt} {rk : Option Nat} {call : CallD} {mvf : FuncId → Option Nat} (hcall : ∀ f zas h0 mv r h', call f zas h0 mv = some (r, h') → C f zas h0 mv (fun r1 h1 => r1 = r ∧ h1 = h'))
include hcall
theorem putT_get {E : Tr} {e : Env} (he : ∀ i, get e i = E.get i) (d : Option Nat) (x : V) (h : List Blk) (b : Nat) : ∀ i, get ((⟨e, h, b⟩ : St).put d x).e i = (putT E d x).get i := by
 intro i
 cases d with
 | none => exact he i
 | some d =>
  simp only [putT, forceV_eq]
  rw [Tr.get_put _ _ _ _ _ (yW d)]
  show (if i = d then x else get e i) = _
  rw [he]
theorem runD_ok {bn : List Nat} {o : LOper} {b : Nat} {p : Pt} {outs : List Pt} (h : runD call mvf fx bn o b p = some outs) {e : Env} (he : ∀ i, get e i = p.1.get i) {K : St → Prop}
  (hK : ∀ q ∈ outs, ∀ e', (∀ i, get e' i = q.1.get i) → K ⟨e', q.2, b⟩) : aOp { C := C, fx := fx, bn := bn, it := it, y := yy, rk := rk } o.op ⟨e, p.2, b⟩ fun x s' => K (s'.put o.dst x) := by
 unfold runD at h
 split at h
 ·cases h
 ·rename_i rs hrs
  simp only [yA] at h
  subst h
  refine opD_ok hcall he hrs fun r hr e' he' => ?_
  have := hK (putT r.E o.dst r.x, r.h) (by rw [yE]; exact ⟨r, hr, rfl⟩) ((⟨e', r.h, b⟩ : St).put o.dst r.x).e (putT_get hcall he' _ _ _ _)
  cases hd : o.dst with
  | none => rw [hd] at this; exact this
  | some d => rw [hd] at this; exact this
theorem operD_ok {bn : List Nat} {o : LOper} {b : Nat} {p : Pt} {outs : List Pt} (h : operD call mvf fx bn o b p = some outs) {e : Env} (he : ∀ i, get e i = p.1.get i) {K : St → Prop}
  (hK : ∀ q ∈ outs, ∀ e', (∀ i, get e' i = q.1.get i) → K ⟨e', q.2, b⟩) : aOper { C := C, fx := fx, bn := bn, it := it, y := yy, rk := rk } o ⟨e, p.2, b⟩ K := by
 unfold operD at h
 unfold aOper
 split at h
 ·rename_i hg
  rw [hg]
  exact runD_ok hcall h he hK
 ·rename_i g want hg
  rw [hg]
  have hge := he g
  show guardP (get e g) want _ _ _
  split at h
  ·rename_i t ht
   rw [hge, ht]
   have hput : ∀ v : Bool, v = t → ∀ i, get ((g, V.b v) :: e) i = p.1.get i := by
    intro v hv i
    subst hv
    show (if i = g then V.b v else get e i) = _
    by_cases hi : i = g
    ·rw [if_pos hi, hi, ht]
    ·rw [if_neg hi, he]
   have hskip : ∀ v : Bool, v = t → ∀ {outs : List Pt}, some [(putT p.1 o.dst (.v (.tuple #[])), p.2)] = some outs → (∀ q ∈ outs, ∀ e', (∀ i, get e' i = q.1.get i) → K ⟨e', q.2, b⟩) →
     K (((⟨e, p.2, b⟩ : St).put (some g) (.b v)).put o.dst (.v (.tuple #[]))) := by
    intro v hv outs ho hK
    simp only [yA] at ho
    subst ho
    have := hK _ (yF _) ((⟨(g, V.b v) :: e, p.2, b⟩ : St).put o.dst (.v (.tuple #[]))).e (putT_get hcall (hput v hv) _ _ _ _)
    cases hd : o.dst with
    | none => rw [hd] at this; exact this
    | some d => rw [hd] at this; exact this
   split at h
   ·rename_i htw
    subst htw
    have := runD_ok (it := it) (yy := yy) (rk := rk) hcall h (hput t rfl) hK
    cases t with
    | true => exact ⟨fun _ => this, fun h => by cases h⟩
    | false => exact ⟨fun h => (by cases h), fun _ => this⟩
   ·rename_i htw
    have hn : (!want) = t := by cases t <;> cases want <;> simp_all
    have := hskip (!want) hn h hK
    cases t with
    | true => cases want with
     | true => exact absurd rfl htw
     | false => exact ⟨fun _ => this, fun h => by cases h⟩
    | false => cases want with
     | true => exact ⟨fun h => (by cases h), fun _ => this⟩
     | false => exact absurd rfl htw
  ·rename_i u ht
   rw [hge, ht]
   simp only [yA] at h
   subst h
   have := hK _ (yF _) ((⟨e, p.2, b⟩ : St).put o.dst (.v (.tuple #[]))).e (putT_get hcall he _ _ _ _)
   show K ((⟨e, p.2, b⟩ : St).put o.dst (.v (.tuple #[])))
   cases hd : o.dst with
   | none => rw [hd] at this; exact this
   | some d => rw [hd] at this; exact this
  ·cases h
theorem opsD_ok {b : Nat} {K : St → Prop} : ∀ {ls : List LOper} {p : Pt} {outs : List Pt}, opsD call mvf fx b ls p = some outs → ∀ {e : Env}, (∀ i, get e i = p.1.get i) →
  (∀ q ∈ outs, ∀ e', (∀ i, get e' i = q.1.get i) → K ⟨e', q.2, b⟩) → aOps { C := C, fx := fx, bn := [], it := it, y := yy, rk := rk } ls ⟨e, p.2, b⟩ K
 | [], p, outs, h, e, he, hK => by
  simp only [opsD, yA] at h
  subst h
  exact hK _ (yF _) e he
 | o :: r, p, outs, h, e, he, hK => by
  simp only [opsD] at h
  obtain ⟨xs, h1, h2⟩ := bindL_ok h
  refine operD_ok hcall h1 he fun q hq e' he' => ?_
  obtain ⟨zs, h3, h4⟩ := h2 q hq
  exact opsD_ok h3 he' fun z hz => hK z (h4 z hz)
theorem yldD_ok {y : Nat → YtD} (hy : YdOk y yy) {d : Option Nat} {f : Operand} {xs : List Operand} {p : Pt} {outs : List Pt} (h : yldD y d f xs p = some outs) {e : Env} (he : ∀ i, get e i = p.1.get i) {b : Nat} {K : St → Prop}
  (hK : ∀ q ∈ outs, ∀ e', (∀ i, get e' i = q.1.get i) → K ⟨e', q.2, b⟩) : yieldP { C := C, fx := fx, bn := [], it := it, y := yy, rk := rk } f xs ⟨e, p.2, b⟩ fun x s' => K (s'.put d x) := by
 unfold yldD at h
 unfold yieldP
 rw [ev_ok he]
 split at h
 ·rename_i k hk
  rw [hk]
  split at h
  ·rename_i rs hrs
   simp only [yA] at h
   subst h
   have hm : xs.map (ev e) = xs.map (evT p.1) := yM fun x _ => ev_ok he x
   show yy k (xs.map (ev e)) _ _
   rw [hm]
   refine hy k _ _ p.1 rs _ he hrs fun r hr e' he' => ?_
   have := hK (putT r.2.1 d r.1, r.2.2) (by rw [yE]; exact ⟨r, hr, rfl⟩) ((⟨e', r.2.2, b⟩ : St).put d r.1).e (putT_get hcall he' _ _ _ _)
   cases d with
   | none => exact this
   | some d => exact this
  ·cases h
 ·cases h
theorem operYD_ok {y : Nat → YtD} (hy : YdOk y yy) {o : LOper} {b : Nat} {p : Pt} {outs : List Pt} (h : operYD call mvf fx y o b p = some outs) {e : Env} (he : ∀ i, get e i = p.1.get i) {K : St → Prop}
  (hK : ∀ q ∈ outs, ∀ e', (∀ i, get e' i = q.1.get i) → K ⟨e', q.2, b⟩) : aOperY { C := C, fx := fx, bn := [], it := it, y := yy, rk := rk } o ⟨e, p.2, b⟩ K := by
 unfold operYD at h
 unfold aOperY
 split at h
 ·rename_i f xs ho
  rw [ho]
  show gP o.g o.dst (yieldP _ f xs) ⟨e, p.2, b⟩ K
  unfold gP
  split at h
  ·rename_i hg
   rw [hg]
   exact yldD_ok hcall hy h he hK
  ·rename_i g want hg
   rw [hg]
   have hge := he g
   show guardP (get e g) want _ _ _
   split at h
   ·rename_i t ht
    rw [hge, ht]
    have hput : ∀ v : Bool, v = t → ∀ i, get ((g, V.b v) :: e) i = p.1.get i := by
     intro v hv i
     subst hv
     show (if i = g then V.b v else get e i) = _
     by_cases hi : i = g
     ·rw [if_pos hi, hi, ht]
     ·rw [if_neg hi, he]
    have hskip : ∀ v : Bool, v = t → ∀ {outs : List Pt}, some [(putT p.1 o.dst (.v (.tuple #[])), p.2)] = some outs → (∀ q ∈ outs, ∀ e', (∀ i, get e' i = q.1.get i) → K ⟨e', q.2, b⟩) →
      K (((⟨e, p.2, b⟩ : St).put (some g) (.b v)).put o.dst (.v (.tuple #[]))) := by
     intro v hv outs ho hK
     simp only [yA] at ho
     subst ho
     have := hK _ (yF _) ((⟨(g, V.b v) :: e, p.2, b⟩ : St).put o.dst (.v (.tuple #[]))).e (putT_get hcall (hput v hv) _ _ _ _)
     cases hd : o.dst with
     | none => rw [hd] at this; exact this
     | some d => rw [hd] at this; exact this
    split at h
    ·rename_i htw
     subst htw
     have := yldD_ok (C := C) (it := it) (rk := rk) (fx := fx) hcall hy h (hput t rfl) hK
     cases t with
     | true => exact ⟨fun _ => this, fun h => by cases h⟩
     | false => exact ⟨fun h => (by cases h), fun _ => this⟩
    ·rename_i htw
     have hn : (!want) = t := by cases t <;> cases want <;> simp_all
     have := hskip (!want) hn h hK
     cases t with
     | true => cases want with
      | true => exact absurd rfl htw
      | false => exact ⟨fun _ => this, fun h => by cases h⟩
     | false => cases want with
      | true => exact ⟨fun h => (by cases h), fun _ => this⟩
      | false => exact absurd rfl htw
   ·rename_i u ht
    rw [hge, ht]
    simp only [yA] at h
    subst h
    have := hK _ (yF _) ((⟨e, p.2, b⟩ : St).put o.dst (.v (.tuple #[]))).e (putT_get hcall he _ _ _ _)
    show K ((⟨e, p.2, b⟩ : St).put o.dst (.v (.tuple #[])))
    cases hd : o.dst with
    | none => rw [hd] at this; exact this
    | some d => rw [hd] at this; exact this
   ·cases h
 ·rename_i hne
  split
  ·rename_i f xs ho; exact absurd ho (hne f xs)
  ·exact operD_ok hcall h he hK
theorem opsYD_ok {y : Nat → YtD} (hy : YdOk y yy) {b : Nat} {K : St → Prop} : ∀ {ls : List LOper} {p : Pt} {outs : List Pt}, opsYD call mvf fx y b ls p = some outs → ∀ {e : Env}, (∀ i, get e i = p.1.get i) →
  (∀ q ∈ outs, ∀ e', (∀ i, get e' i = q.1.get i) → K ⟨e', q.2, b⟩) → aOpsY { C := C, fx := fx, bn := [], it := it, y := yy, rk := rk } ls ⟨e, p.2, b⟩ K
 | [], p, outs, h, e, he, hK => by
  simp only [opsYD, yA] at h
  subst h
  exact hK _ (yF _) e he
 | o :: r, p, outs, h, e, he, hK => by
  simp only [opsYD] at h
  obtain ⟨xs, h1, h2⟩ := bindL_ok h
  refine operYD_ok hcall hy h1 he fun q hq e' he' => ?_
  obtain ⟨zs, h3, h4⟩ := h2 q hq
  exact opsYD_ok hy h3 he' fun z hz => hK z (h4 z hz)
theorem planD_ok {b : Nat} {K : St → Prop} : ∀ {l : LPlan} {bn : List Nat} {p : Pt} {outs : List Pt}, planD call mvf fx b l bn p = some outs → ∀ {e : Env}, (∀ i, get e i = p.1.get i) →
  (∀ q ∈ outs, ∀ e', (∀ i, get e' i = q.1.get i) → K ⟨e', q.2, b⟩) → awP { C := C, fx := fx, bn := [], it := it, y := yy, rk := rk } l bn K ⟨e, p.2, b⟩
 | .done, bn, p, outs, h, e, he, hK => by
  simp only [planD, yA] at h
  subst h
  exact hK _ (yF _) e he
 | .take i D o q, bn, p, outs, h, e, he, hK => by
  simp only [planD] at h
  obtain ⟨xs, h1, h2⟩ := bindL_ok h
  refine operD_ok hcall h1 he fun q' hq e' he' => ?_
  obtain ⟨zs, h3, h4⟩ := h2 q' hq
  have hrd : rdB o.op e bn = rdT o.op p.1 bn := by
   unfold rdB rdT
   cases o.op with
   | load n a => simp only [ev_ok he]; cases evT p.1 a <;> rfl
   | _ => rfl
  show awP _ q (rdB o.op e bn) K _
  rw [hrd]
  exact planD_ok h3 he' fun z hz => hK z (h4 z hz)
 | .alt i o r q q', bn, p, outs, h, e, he, hK => by
  simp only [planD] at h
  split at h
  ·rename_i x y h1 h2
   simp only [yA] at h
   subst h
   obtain ⟨xs, h3, h4⟩ := bindL_ok h1
   refine ⟨operD_ok hcall h3 he fun q' hq e' he' => ?_, planD_ok h2 he fun z hz => hK z (vF _ hz)⟩
   obtain ⟨zs, h5, h6⟩ := h4 q' hq
   exact planD_ok h5 he' fun z hz => hK z (vR _ (h6 z hz))
  ·cases h
 | .none, bn, p, outs, h, e, he, hK => trivial
end
def Out.ex : Out → Exit
 | .normal _ => .normal
 | .exit j _ => .exit j
 | .ret _ => .ret
def Out.pt : Out → Pt
 | .normal p => p
 | .exit _ p => p
 | .ret p => p
theorem GoodT.reserve {p : Pt} {a : Act} {w : World} (n : Nat) (h : GoodT ρ0 X w0 fx N p a w) : ∃ e, (∀ i, get e i = p.1.get i) ∧ Good ρ0 X w0 fx N ⟨e, roomD n p.2, p.2.length⟩ a w := by
 obtain ⟨e, b, he, hg⟩ := h
 refine ⟨e, he, ?_⟩
 have := hg.reserve n p.2.length
 cases n with
 | zero => simpa [roomD] using this
 | succ n => exact this
theorem others_mem {o : Out} : ∀ {l : List Out}, o ∈ l → (∀ p, o ≠ .normal p) → o ∈ others l
 | [], h, _ => by simp at h
 | x :: r, h, hn => by
  rcases yP.1 h with rfl | h'
  ·cases o with
   | normal p => exact (hn p rfl).elim
   | _ => simp [others]
  ·clear h
   have ih := others_mem h' hn
   cases x with
   | normal p => exact ih
   | _ => simp only [others]; exact yH _ ih
theorem norms_mem {p : Pt} : ∀ {l : List Out}, Out.normal p ∈ l → p ∈ norms l
 | [], h => by simp at h
 | x :: r, h => by
  rcases yP.1 h with rfl | h'
  ·simp [norms]
  ·clear h
   have ih := norms_mem h'
   cases x with
   | normal p => simp only [norms]; exact yH _ ih
   | _ => exact ih
theorem Tr.get_ren (g : Nat → Option Nat) : ∀ (t : Tr) (i : Nat), (t.ren g).get i = renK g (t.get i)
 | .lf, _ => by simp [Tr.ren, Tr.get, renK]
 | .nd v l r, i => by
  cases i with
  | zero => rfl
  | succ j =>
   simp only [Tr.ren, Tr.get]
   split
   ·exact Tr.get_ren g l _
   ·exact Tr.get_ren g r _
mutual
theorem renK_rep {w : World} {ρ1 ρ2 : Nat → Loc} {g : Nat → Option Nat} (hS : ∀ b, Sta ρ1 X w b → Sta ρ2 X w b) (hL : ∀ b, Len ρ1 w b → Len ρ2 w b) (hg : ∀ k j, g k = some j → (ρ1 k).real = true → ρ2 j = ρ1 k) :
  ∀ (x : V) (val : Value), RepV ρ1 X w x val → RepV ρ2 X w (renK g x) val
 | .any, _, _ => trivial
 | .v _, _, hx => hx
 | .ro sz els, val, hx => RepD_mono (fun b hb => ⟨hS b hb, rfl⟩) (.ro sz els) val hx
 | .bro sz els, val, hx => by
  obtain ⟨a, len, cap, h1, h2, h3, h4, h5⟩ := hx
  refine ⟨a, len, cap, h1, h2, h3, h4, h5.imp id ?_⟩
  rintro ⟨b, off, h6, h7, h8⟩
  exact ⟨b, off, h6, hL b h7, RepEls_mono (fun b hb => ⟨hS b hb, rfl⟩) sz b rfl off els h8⟩
 | .full sz els, val, hx => by
  obtain ⟨a, len, h1, h2, h4, h5⟩ := hx
  refine ⟨a, len, h1, h2, h4, h5.imp id ?_⟩
  rintro ⟨b, off, h6, h7, h8⟩
  exact ⟨b, off, h6, hL b h7, RepEls_mono (fun b hb => ⟨hS b hb, rfl⟩) sz b rfl off els h8⟩
 | .rp sz els i f, val, hx => by
  obtain ⟨b, off, h6, h7, h8⟩ := hx
  exact ⟨b, off, h6, hL b h7, RepEls_mono (fun b hb => ⟨hS b hb, rfl⟩) sz b rfl off els h8⟩
 | .itr k, val, hx => by
  simp only [renK]
  split
  ·rename_i j hj
   obtain ⟨h4, h5⟩ := hx
   simp only [RepV]
   rw [hg k j hj h4]
   exact ⟨h4, h5⟩
  ·trivial
 | .sl k i n, val, hx => by
  simp only [renK]
  split
  ·rename_i j hj
   obtain ⟨cap, h1, h2, h3⟩ := hx
   refine ⟨cap, h1, h2, h3.imp id ?_⟩
   rintro ⟨h4, h5⟩
   rw [hg k j hj h4]
   exact ⟨h4, h5⟩
  ·trivial
 | .ptr k i f, val, hx => by
  simp only [renK]
  split
  ·rename_i j hj
   obtain ⟨h4, h5⟩ := hx
   simp only [RepV]
   rw [hg k j hj h4]
   exact ⟨h4, h5⟩
  ·trivial
 | .mp k, val, hx => by
  simp only [renK]
  split
  ·rename_i j hj
   obtain ⟨h4, h5⟩ := hx
   simp only [RepV]
   rw [hg k j hj h4]
   exact ⟨h4, h5⟩
  ·trivial
 | .agg cs, val, hx => by
  obtain ⟨arr, h1, h2⟩ := hx
  exact ⟨arr, h1, rensK_rep hS hL hg cs _ h2⟩
 | .tup cs, val, hx => by
  obtain ⟨arr, h1, h2⟩ := hx
  exact ⟨arr, h1, rensK_rep hS hL hg cs _ h2⟩
 | .clo f cs, val, hx => by
  obtain ⟨arr, h1, h2⟩ := hx
  exact ⟨arr, h1, rensK_rep hS hL hg cs _ h2⟩
theorem rensK_rep {w : World} {ρ1 ρ2 : Nat → Loc} {g : Nat → Option Nat} (hS : ∀ b, Sta ρ1 X w b → Sta ρ2 X w b) (hL : ∀ b, Len ρ1 w b → Len ρ2 w b) (hg : ∀ k j, g k = some j → (ρ1 k).real = true → ρ2 j = ρ1 k) :
  ∀ (xs : List V) (vs : List Value), RepL ρ1 X w xs vs → RepL ρ2 X w (rensK g xs) vs
 | [], [], _ => trivial
 | x :: r, u :: us, hx => ⟨renK_rep hS hL hg x u hx.1, rensK_rep hS hL hg r us hx.2⟩
 | [], _ :: _, hx => hx.elim
 | _ :: _, [], hx => hx.elim
end
theorem rensK_map (g : Nat → Option Nat) : ∀ xs : List V, rensK g xs = xs.map (renK g)
 | [] => rfl
 | x :: r => by simp [rensK, rensK_map g r]
theorem get_renEK (g : Nat → Option Nat) : ∀ (e : Env) (i : Nat), get (renEK g e) i = renK g (get e i)
 | [], _ => by simp [renEK, get, renK]
 | (j, x) :: r, i => by
  simp only [renEK, get]
  split
  ·rfl
  ·exact get_renEK g r i
theorem renBK_rep {w : World} {ρ1 ρ2 : Nat → Loc} {g : Nat → Option Nat} (hS : ∀ b, Sta ρ1 X w b → Sta ρ2 X w b) (hL : ∀ b, Len ρ1 w b → Len ρ2 w b) (hg : ∀ k j, g k = some j → (ρ1 k).real = true → ρ2 j = ρ1 k)
  {k j : Nat} (hkj : ρ2 j = ρ1 k) {B : Blk} (hB : RepB ρ1 X w k B) : RepB ρ2 X w j (renBK g B) := by
 cases B with
 | dead => simp only [renBK, RepB] at hB ⊢; rw [hkj]; exact hB
 | arr sz els =>
  simp only [renBK, RepB] at hB ⊢
  rw [hkj]
  refine ⟨hB.1, hB.2.imp id ?_⟩
  rintro ⟨h1, c, T, h2, h3, h4, h5⟩
  exact ⟨h1, c, T, h2, h3, h4, RepEls_mono (fun b hb => ⟨hS b hb, rfl⟩) sz _ rfl _ _ h5⟩
 | var cs =>
  simp only [renBK, RepB] at hB ⊢
  rw [hkj]
  obtain ⟨h1, c, T, h2, h3⟩ := hB
  exact ⟨h1, c, T, h2, rensK_rep hS hL hg _ _ h3.1, h3.2⟩
 | arv sz els =>
  simp only [renBK, RepB] at hB ⊢
  rw [hkj]
  obtain ⟨h0, h1, c, T, h2, h3, h4, h5⟩ := hB
  refine ⟨h0, h1, c, T, h2, h3, by simpa using h4, fun i e he => ?_⟩
  simp only [yL, yG] at he
  obtain ⟨e0, he0, rfl⟩ := he
  refine ⟨by rw [rensK_map, List.length_map]; exact (h5 i e0 he0).1, fun f x hx => ?_⟩
  simp only [rensK_map, yL, yG] at hx
  obtain ⟨x0, hx0, rfl⟩ := hx
  obtain ⟨u, h6, h7⟩ := (h5 i e0 he0).2 f x0 hx0
  exact ⟨u, h6, renK_rep hS hL hg _ _ h7⟩
 | map es cl =>
  simp only [renBK, RepB] at hB ⊢
  rw [hkj]
  obtain ⟨h1, arr, h2, h3, h4⟩ := hB
  refine ⟨h1, arr, h2, by rw [h3]; simp, ?_⟩
  rw [show (List.map (fun e : Value × V × Nat => (e.1, renK g e.2.1, e.2.2)) es).map (·.2.1) = rensK g (es.map (·.2.1)) by rw [rensK_map]; simp]
  exact rensK_rep hS hL hg _ _ h4
 | it m s sn l =>
  simp only [renBK, RepB] at hB ⊢
  rw [hkj]
  obtain ⟨h1, x, h2, h3⟩ := hB
  exact ⟨h1, x, h2, renK_rep hS hL hg _ _ h3⟩
 | rcd t e =>
  simp only [renBK, RepB] at hB ⊢
  rw [hkj]
  exact ⟨hB.1, fun i => by rw [get_renEK]; exact renK_rep hS hL hg _ _ (hB.2 i)⟩
theorem gc_rep {ρ : Nat → Loc} {w : World} {h : List Blk} (hr : Rep ρ X w h) {ι : List Nat} (hn : ι.Nodup) (hlt : ∀ k ∈ ι, k < h.length) :
  Rep (calleeLoc ρ ι) X w (ι.map fun k => renBK (pos ι) (blk h k)) := by
 refine ⟨?_, ?_, ?_, fun b ho => hr.disj b (callee_own ho), ?_, hr.xlt⟩
 ·intro i j hij hi hj
  obtain ⟨a, ha, ea⟩ := callee_real hi
  obtain ⟨c, hc, ec⟩ := callee_real hj
  rw [ea] at hi ⊢
  rw [ec] at hj ⊢
  refine hr.inj a c (fun e => hij ?_) hi hj
  subst e
  have h1 := pos_of_get hn ha
  have h2 := pos_of_get hn hc
  rw [h1] at h2
  simpa using h2
 ·intro k hk
  have : ι[k]? = none := by simpa using hk
  simp [calleeLoc, this]
 ·intro j B hB
  simp only [yL, yG] at hB
  obtain ⟨k, hk, rfl⟩ := hB
  have hkl := hlt k (List.mem_of_getElem? hk)
  have hb : h[k]? = some (blk h k) := by simp [blk, yD, yK hkl]
  exact renBK_rep (fun b hb => ⟨hb.1, fun ho => hb.2.1 (callee_own ho), hb.2.2⟩) (fun b hb => callee_len hb) (fun k' j' hp _ => callee_at (pos_some hp)) (callee_at hk) (hr.blk k _ hb)
 ·intro j hj
  unfold calleeLoc at hj ⊢
  split at hj
  ·exact hr.lt _ hj
  ·cases hj
theorem gc_fr {ρ : Nat → Loc} {w : World} {ι : List Nat} : Fr ρ w (calleeLoc ρ ι) w := ⟨rfl, rfl, rfl, yI _, fun _ _ ho => ⟨rfl, fun h => ho (callee_own h)⟩⟩
theorem gc_val {ρ : Nat → Loc} {w : World} {ι : List Nat} {x : V} {val : Value} (h : RepV ρ X w x val) : RepV (calleeLoc ρ ι) X w (renK (pos ι) x) val :=
 renK_rep (fun b hb => ⟨hb.1, fun ho => hb.2.1 (callee_own ho), hb.2.2⟩) (fun b hb => callee_len hb) (fun k' j' hp _ => callee_at (pos_some hp)) x val h
theorem keepN_get {n : Nat} {h : List Blk} {names : List Nat} {k : Nat} (hk : k < n) : (keepN n h names)[k]? = some k := by
 unfold keepN
 rw [List.getElem?_append_left (by simpa using hk)]
 simp [hk]
theorem numB_ok {L : List Nat} {h : List Blk} {n : Nat} (hb : numB L h n = true) : L.Nodup ∧ (∀ k ∈ L, k < h.length) ∧ n ≤ h.length := by
 unfold numB at hb
 simp only [yB, yV, Nat.blt_eq, Nat.ble_eq] at hb
 exact ⟨nodup_of hb.1.1, hb.1.2, hb.2⟩
theorem gcD_ok {n0 : Nat} (hfn : ∀ k ∈ fx, k < n0) {p q : Pt} (h : gcD fx n0 p = some q) {a : Act} {w : World} (hg : GoodT ρ0 X w0 fx N p a w) : GoodT ρ0 X w0 fx N q a w := by
 unfold gcD at h
 split at h
 ·simp only [yA] at h
  subst h
  exact hg
 generalize hL : keepN n0 p.2 p.1.namesT = L at h
 unfold gcK at h
 simp only at h
 split at h
 ·rename_i hc
  simp only [yB] at hc
  simp only [yA] at h
  subst h
  obtain ⟨hn, hlt, _⟩ := numB_ok hc.1
  obtain ⟨e, b, he, ρ, ⟨⟨hf, h1⟩, hk⟩, ⟨hr, hre⟩, h5, h6⟩ := hg
  refine ⟨(p.1.ren (pos L)).toEnv, 0, toEnv_get _, calleeLoc ρ L, ⟨⟨hf.trans gc_fr, fun k hk' => ?_⟩, keep_of hc.2⟩, ⟨gc_rep hr hn hlt, fun i => ?_⟩, h5, h6.fr gc_fr⟩
  ·rw [callee_at (by rw [← hL]; exact keepN_get (hfn k hk'))]
   exact h1 k hk'
  ·rw [toEnv_get, Tr.get_ren, ← he]
   exact gc_val (hre i)
 ·cases h
theorem ofEnv_get : ∀ (e : Env) (i : Nat), (ofEnv e).get i = get e i
 | [], _ => rfl
 | (j, x) :: r, i => by
  simp only [ofEnv, forceNat_eq, putT, forceV_eq]
  rw [Tr.get_put _ _ _ _ _ (yW j), ofEnv_get r i]
  rfl
theorem setPsT_get : ∀ (ps : List Nat) (xs : List V) (e : Env) (E : Tr), (∀ i, get e i = E.get i) → ∀ i, get (setPs ps xs e) i = (setPsT ps xs E).get i
 | [], [], _, _, he, i => he i
 | [], _ :: _, _, _, he, i => he i
 | _ :: _, [], _, _, he, i => he i
 | p :: ps, x :: xs, e, E, he, i => by
  simp only [setPs, setPsT]
  refine setPsT_get ps xs _ _ (fun j => ?_) i
  simp only [putT, forceV_eq]
  rw [Tr.get_put _ _ _ _ _ (yW p), ← he j]
  rfl
def Out.K (Nn : St → Prop) (Xx : Nat → St → Prop) (Rr : St → Prop) : Out → Prop
 | .normal q => ∀ b, AT b q Nn
 | .exit j q => ∀ b, AT b q (Xx j)
 | .ret q => ∀ b, AT b q Rr
def CwA (call : CallD) (mvf : FuncId → Option Nat) (iter : ItD) (C : Ctr) (it : Itr) (l : LCode) : Cx → (St → Prop) → (Nat → St → Prop) → (St → Prop) → St → Prop := fun cx Nn Xx Rr s =>
 ∃ (n0 : Nat) (yd : Nat → YtD) (E : Tr) (outs : List Out), (cx.C = C ∧ cx.it = it ∧ cx.bn = []) ∧ (∀ k ∈ cx.fx, k < n0) ∧ YdOk yd cx.y ∧ (∀ i, get s.e i = E.get i) ∧ cw call mvf iter l cx.fx n0 yd cx.rk (E, s.h) = some outs ∧ ∀ o ∈ outs, o.K Nn Xx Rr
def ItOk (P : Program) (iter : ItD) : Prop := ∀ f zas fx k yd h hs, iter f zas fx k yd h = some hs → Callable P f ∧ ∀ (Y : Yt) (K : List Blk → Prop),
 (∀ xs E h b rs Z, yd xs (E, h) = some rs → (∀ r ∈ rs, AT b r.2 (Z r.1)) → Y xs ⟨E.toEnv, h, b⟩ Z) → (∀ h' ∈ hs, K h') → Iter P f zas fx k Y h K
section
variable {call : CallD} {mvf : FuncId → Option Nat} {iter : ItD}
def CW (P : Program) (X : Nat → Prop) (N : Nat) (call : CallD) (mvf : FuncId → Option Nat) (iter : ItD) (c : Code) : Prop :=
 ∀ (l0 l : LCode), rlC P N c l0 = some l → ∀ (r : Option Nat) (fx : List Nat) (yy : Nat → Yt) (rk : Option Nat) (ρ0 : Nat → Loc) (w0 : World), (r = none ∨ (codeRd c = true ∧ inRd l = true)) →
  ROk r ⟨fun f zas h0 mv R => Callable P f ∧ Fn P f zas h0 mv R, fx, [], fun f zas fx k Y h K => Callable P f ∧ Iter P f zas fx k Y h K, yy, rk⟩ ρ0 → (∀ k, YOk P ρ0 X w0 fx k (yy k)) →
  ∀ (n0 : Nat) (yd : Nat → YtD), (∀ k ∈ fx, k < n0) → YdOk yd yy → ∀ (Q : Exit → Act → World → Prop), ¬ LetsOut Q → ∀ (p : Pt) (outs : List Out), cw call mvf iter l fx n0 yd rk p = some outs →
   (∀ o ∈ outs, ∀ a w, GoodT ρ0 X w0 fx N o.pt a w → Q o.ex a w) → ∀ a w, GoodT ρ0 X w0 fx N p a w → c.wpIn (FR r) 0 P Q a w
theorem CW.snd {c : Code} (h : CW P X N call mvf iter c) {l0 l : LCode} (hm : rlC P N c l0 = some l) :
  SndA P X N c (codeRd c = true ∧ inRd l = true) (CwA call mvf iter (fun f zas h0 mv R => Callable P f ∧ Fn P f zas h0 mv R) (fun f zas fx k Y h K => Callable P f ∧ Iter P f zas fx k Y h K) l) := by
 intro r cx ρ0 w0 hcx hrd hro hy Q Nn Xx Rr hQo hN hX hR s a w ⟨n0, yd, E, outs, ⟨h1, h2, h3⟩, h4, h5, h6, h7, h8⟩ hg
 obtain ⟨C, fx, bn, it, y, rk⟩ := cx
 simp only at h1 h2 h3 h4 h5 h7 hy hg
 subst h1 h2 h3
 refine h l0 l hm r fx y rk ρ0 w0 hrd hro hy n0 yd h4 h5 Q hQo (E, s.h) outs h7 (fun o ho a w hgd => ?_) a w ⟨s.e, s.b, h6, hg⟩
 obtain ⟨e, b, he, hgd⟩ := hgd
 have := h8 o ho
 cases o with
 | normal q => exact hN _ _ _ (this b e he) hgd
 | exit j q => exact hX j _ _ _ (this b e he) hgd
 | ret q => exact hR _ _ _ (this b e he) hgd
theorem cw_rfn (hP : P.follows .mixedOrders = true) (hcall : ∀ f zas h0 mv r h', call f zas h0 mv = some (r, h') → Callable P f ∧ Fn P f zas h0 mv (fun r1 h1 => r1 = r ∧ h1 = h')) (hiter : ItOk P iter)
  {g : Operand} {ps : Array Tmp} {asg body : Code} (ha : CW P X N call mvf iter asg) (hb : CW P X N call mvf iter body) : CW P X N call mvf iter (.rangeFunc g ps asg body) := by
 intro l0 l hm r fx yy rk ρ0 w0 hrd hro hy n0 yd hfn hyd Q hQo p outs hd hQ a w hg
 cases l0 with
 | rfn g' ps' la0 lb0 =>
  simp only [rlC] at hm
  split at hm
  ·rename_i la lb hma hmb
   split at hm
   ·rename_i hc
    simp only [yB] at hc
    simp only [yA] at hm
    subst hm
    obtain ⟨⟨hps, hcd⟩, hin⟩ := hc
    have hps' : ∀ p ∈ ps.toList, p < N := fun p hp => by simpa using yV.1 hps p hp
    obtain ⟨e0, b0, he0, hg⟩ := hg
    have hg1 : Good ρ0 X w0 fx N ⟨p.1.toEnv, p.2, b0⟩ a w := by
     obtain ⟨ρ, g1, ⟨g2, g3⟩, g4⟩ := hg
     exact ⟨ρ, g1, ⟨g2, fun i => by rw [toEnv_get, ← he0]; exact g3 i⟩, g4⟩
    have hfx1 : ∀ n, p.2.length < n → ∀ j ∈ n :: p.2.length :: fx, j < n + 1 := by
     intro n hn j hj
     obtain ⟨ρ, ⟨_, hkp⟩, _⟩ := hg
     rcases yP.1 hj with rfl | hj
     ·omega
     ·rcases yP.1 hj with rfl | hj
      ·omega
      ·have := keepP_get hkp j hj
       unfold liveP at this
       rcases Nat.lt_or_ge j p.2.length with h | h
       ·omega
       ·rw [yZ h] at this
        exact this.elim
    have hS := rfn_okA (g := g) (ha.snd hma) (hb.snd hmb) ⟨(by simpa using hcd : _ ∧ _).1, (by simpa using hin : _ ∧ _).1⟩ ⟨(by simpa using hcd : _ ∧ _).2, (by simpa using hin : _ ∧ _).2⟩ hps'
    refine hS r ⟨_, fx, [], _, yy, rk⟩ ρ0 w0 ⟨fun f zas h0 mv R h => h, fun f zas fx k Y h K h => h⟩ (hrd.imp id fun _ => trivial) hro hy Q
     (fun s => ∃ q, Out.normal q ∈ outs ∧ (∀ i, get s.e i = q.1.get i) ∧ s.h = q.2) (fun j s => ∃ q, Out.exit j q ∈ outs ∧ (∀ i, get s.e i = q.1.get i) ∧ s.h = q.2) (fun s => ∃ q, Out.ret q ∈ outs ∧ (∀ i, get s.e i = q.1.get i) ∧ s.h = q.2) hQo ?_ ?_ ?_ _ a w ?_ hg1
    ·rintro ⟨e, h, b⟩ a w ⟨q, h1, h2, rfl⟩ hgd
     exact hQ _ h1 a w ⟨e, b, h2, hgd⟩
    ·rintro j ⟨e, h, b⟩ a w ⟨q, h1, h2, rfl⟩ hgd
     exact hQ _ h1 a w ⟨e, b, h2, hgd⟩
    ·rintro ⟨e, h, b⟩ a w ⟨q, h1, h2, rfl⟩ hgd
     exact hQ _ h1 a w ⟨e, b, h2, hgd⟩
    ·simp only [cw] at hd
     simp only [ev_ok (toEnv_get p.1)]
     split at hd
     ·rename_i gf caps hcl
      try rw [hcl]
      try simp only
      split at hd
      ·rename_i hir
       simp only [forceNat_eq] at hd
       obtain ⟨hs, h1, h2⟩ := bindL_ok hd
       obtain ⟨hcb, h3⟩ := hiter _ _ _ _ _ _ _ h1
       refine ⟨?_, hcb, h3 _ _ ?_ ?_⟩
       ·unfold inRdB at hir
        unfold inRdP
        split at hir
        ·trivial
        ·split at hir
         ·rename_i hk
          simp only [rcdK, hk]
         ·cases hir
       ·intro xs E h b rs Z hrs hZ
        simp only [rndD] at hrs
        split at hrs
        ·rename_i e hk
         split at hrs
         ·rename_i hlen
          obtain ⟨os, h4, h5⟩ := bindL_ok hrs
          obtain ⟨oa, h6, h7⟩ := bindL_ok h4
          simp only [rcdK, hk]
          refine ⟨trivial, hlen, h.length + 1, _, _, oa, ⟨rfl, rfl, rfl⟩, ?_, (fun _ _ _ _ _ _ _ h _ => by simp at h), setPsT_get _ _ _ _ (fun i => (ofEnv_get e i).symm), h6, fun o ho => ?_⟩
          ·exact hfx1 h.length (vS.1 hk).1
          ·obtain ⟨zs, h8, h9⟩ := h7 o ho
           cases o with
           | normal q =>
            simp only [begRdD] at h8
            split at h8
            ·rename_i e' hk'
             intro b' ea hea
             simp only [begRd, rcdK, hk']
             refine ⟨trivial, h.length + 1, _, _, zs, ⟨rfl, rfl, rfl⟩, ?_, (fun _ _ _ _ _ _ _ h _ => by simp at h), hea, h8, fun o2 ho2 => ?_⟩
             ·exact hfx1 h.length (vS.1 hk).1
             ·obtain ⟨zs2, h10, h11⟩ := h5 o2 (h9 o2 ho2)
              have key : ∀ (bb : Bool) (t : RS) (q2 : Pt), endRdD p.2.length h.length bb t q2 = some zs2 → ∀ b2, AT b2 q2 (endRd p.2.length h.length b Z bb t) := by
               intro bb t q2 hq2 b2 e2 he2
               simp only [endRdD] at hq2
               split at hq2
               ·rename_i er hkr
                split at hq2
                ·rename_i eg hkg
                 simp only [yA] at hq2
                 subst hq2
                 simp only [endRd, rcdK, hkr, hkg]
                 exact ⟨trivial, trivial, hZ _ (h11 _ (yF _)) _ fun i => (ofEnv_get eg i).symm⟩
                ·cases hq2
               ·cases hq2
              cases o2 with
              | normal q2 => exact fun b2 => key _ _ _ h10 b2
              | exit j q2 => exact fun b2 => key _ _ _ h10 b2
              | ret q2 => exact fun b2 => key _ _ _ h10 b2
            ·cases h8
           | exit j q => simp [begRdD] at h8
           | ret q => simp [begRdD] at h8
         ·cases hrs
        ·cases hrs
       ·intro h' hh'
        obtain ⟨zs, h4, h5⟩ := h2 h' hh'
        simp only [endLpD] at h4
        split at h4
        ·rename_i t e hk
         split at h4
         ·rename_i hw
          simp only [yB] at hw
          simp only [endLp, rcdK, hk]
          refine ⟨⟨wfEB_ok _ hw.1, wfBB_ok _ hw.2⟩, ?_⟩
          split at h4
          ·simp only [yA] at h4
           subst h4
           exact ⟨_, h5 _ (yF _), fun i => (ofEnv_get e i).symm, rfl⟩
          ·simp only [yA] at h4
           subst h4
           exact ⟨_, h5 _ (yF _), fun i => (ofEnv_get e i).symm, rfl⟩
          ·simp only [yA] at h4
           subst h4
           exact ⟨_, h5 _ (yF _), fun i => (ofEnv_get e i).symm, rfl⟩
          ·cases h4
         ·cases h4
        ·cases h4
      ·cases hd
     ·cases hd
   ·cases hm
  ·cases hm
 | _ => simp [rlC] at hm
theorem cw_sound (hP : P.follows .mixedOrders = true) (hcall : ∀ f zas h0 mv r h', call f zas h0 mv = some (r, h') → Callable P f ∧ Fn P f zas h0 mv (fun r1 h1 => r1 = r ∧ h1 = h')) (hiter : ItOk P iter) : ∀ c : Code, CW P X N call mvf iter c := by
 have hcl : ∀ f zas h0 mv r h', call f zas h0 mv = some (r, h') → (fun f zas h0 mv R => Callable P f ∧ Fn P f zas h0 mv R) f zas h0 mv (fun r1 h1 => r1 = r ∧ h1 = h') := hcall
 have hcx : ∀ (fx : List Nat) (yy : Nat → Yt) (rk : Option Nat), Cx.ok ⟨fun f zas h0 mv R => Callable P f ∧ Fn P f zas h0 mv R, fx, [], fun f zas fx k Y h K => Callable P f ∧ Iter P f zas fx k Y h K, yy, rk⟩ P := fun _ _ _ => ⟨fun f zas h0 mv R h => h, fun f zas fx k Y h K h => h⟩
 intro c
 induction c with
 | skip =>
  intro l0 l hm r fx yy rk ρ0 w0 hrd hro hy n0 yd hfn hyd Q hQo p outs hd hQ a w hg
  simp only [rlC, yA] at hm
  subst hm
  simp only [cw, yA] at hd
  subst hd
  exact wpIn_skip (hQ (.normal p) (by simp) a w hg)
 | label i =>
  intro l0 l hm r fx yy rk ρ0 w0 hrd hro hy n0 yd hfn hyd Q hQo p outs hd hQ a w hg
  simp only [rlC, yA] at hm
  subst hm
  simp only [cw, yA] at hd
  subst hd
  exact wpIn_label (hQ (.normal p) (by simp) a w hg)
 | scope c ih =>
  intro l0 l hm r fx yy rk ρ0 w0 hrd hro hy n0 yd hfn hyd Q hQo p outs hd hQ a w hg
  simp only [rlC] at hm
  rcases hrd with rfl | hrd
  ·refine (wpIn_wide (n := 0)).2 (wp_scope_straight ((wpIn_wide (n := 0)).1 (ih l0 l hm none fx yy rk ρ0 w0 (.inl rfl) hro hy n0 yd hfn hyd (Exit.noGoto Q) (fun ⟨a, w, hq⟩ => hQo ⟨a, w, hq⟩) p outs hd (fun o ho a w h => ?_) a w hg)))
   have := hQ o ho a w h
   cases o <;> exact this
  ·exact absurd hrd.1 (by simp [codeRd])
 | ret =>
  intro l0 l hm r fx yy rk ρ0 w0 hrd hro hy n0 yd hfn hyd Q hQo p outs hd hQ a w hg
  simp only [rlC, yA] at hm
  subst hm
  simp only [cw, yA] at hd
  subst hd
  exact wpIn_ret (hQ (.ret p) (by simp) a w hg)
 | exit i =>
  intro l0 l hm r fx yy rk ρ0 w0 hrd hro hy n0 yd hfn hyd Q hQo p outs hd hQ a w hg
  simp only [rlC, yA] at hm
  subst hm
  simp only [cw, yA] at hd
  subst hd
  exact wpIn_exit (hQ (.exit i p) (by simp) a w hg)
 | region id ops draw =>
  intro l0 l hm r fx yy rk ρ0 w0 hrd hro hy n0 yd hfn hyd Q hQo p outs hd hQ a w hg
  have hdf : r = none ∨ ops.toList.all notDefer = true := hrd.imp (fun h => h) fun h => h.1
  have hN : ∀ {ps : List Pt}, outs = ps.map .normal → ∀ (s : St) a w, (∃ q ∈ ps, (∀ i, get s.e i = q.1.get i) ∧ s.h = q.2) → Good ρ0 X w0 fx N s a w → Q .normal a w := by
   rintro ps rfl s a w ⟨q, hq, h1, h2⟩ hg
   exact hQ (.normal q) (by rw [yE]; exact ⟨q, hq, rfl⟩) a w ⟨s.e, s.b, h1, by show Good ρ0 X w0 fx N ⟨s.e, q.2, s.b⟩ a w; rw [← h2]; exact hg⟩
  simp only [rlC] at hm
  split at hm
  ·split at hm
   ·rename_i x hr
    simp only [yA] at hm
    subst hm
    simp only [cw, yG] at hd
    obtain ⟨ps, h1, h2⟩ := hd
    obtain ⟨e, he, hgr⟩ := hg.reserve _
    exact wpIn_region_list (listIn hQo _ (hdf.imp (fun h => h) fun h => yV.1 h) _ _ (aOps_sound (hcx fx yy rk) rfl (hN h2.symm) _ _ _ _ a w hr hgr (opsD_ok hcl h1 he fun q hq e' he' => ⟨q, hq, he', rfl⟩)))
   ·cases hm
  ·split at hm
   ·rename_i x hr
    split at hm
    ·rename_i hc
     simp only [yB] at hc
     simp only [yA] at hm
     subst hm
     rcases hrd with rfl | hrd
     ·simp only [cw, yG] at hd
      obtain ⟨ps, h1, h2⟩ := hd
      obtain ⟨e, he, hgr⟩ := hg.reserve _
      exact (wpIn_wide (n := 0)).2 (qui_sound (cx := ⟨fun f zas h0 mv R => Callable P f ∧ Fn P f zas h0 mv R, fx, [], fun f zas fx k Y h K => Callable P f ∧ Iter P f zas fx k Y h K, yy, rk⟩) hP (hN h2.symm) hr hc.1 hc.2 hgr (opsD_ok hcl h1 he fun q hq e' he' => ⟨q, hq, he', rfl⟩))
     ·exact absurd hrd.2 (by simp [inRd])
    ·cases hm
   ·cases hm
  ·split at hm
   ·rename_i x hr
    split at hm
    ·rename_i hc
     simp only [yB] at hc
     simp only [yA] at hm
     subst hm
     rcases hrd with rfl | hrd
     ·simp only [cw, yG] at hd
      obtain ⟨ps, h1, h2⟩ := hd
      obtain ⟨e, he, hgr⟩ := hg.reserve _
      exact (wpIn_wide (n := 0)).2 (tail_sound hP (hcx fx yy rk) rfl (hN h2.symm) hr hc.1 hc.2 hgr (opsD_ok hcl h1 he fun q hq e' he' => ⟨q, hq, he', rfl⟩))
     ·exact absurd hrd.2 (by simp [inRd])
    ·cases hm
   ·cases hm
  ·split at hm
   ·rename_i x hr
    simp only [yA] at hm
    subst hm
    simp only [cw] at hd
    split at hd
    ·cases hd
    ·rename_i ps h1
     simp only [yG] at hd
     obtain ⟨js, h2, h3⟩ := hd
     obtain ⟨e, he, hgr⟩ := hg.reserve _
     refine tree_in hP (hcx fx yy rk) hQo (K := fun s => ∃ q ∈ ps, (∀ i, get s.e i = q.1.get i) ∧ s.h = q.2) ?_ hdf hr hgr (planD_ok hcl h1 he fun q hq e' he' => ⟨q, hq, he', rfl⟩)
     rintro s a w ⟨q, hq, h4, h5⟩ hg
     obtain ⟨j, hj, hgj⟩ := joinD_ok h2 hq (⟨s.e, s.b, h4, by rw [← h5]; exact hg⟩ : GoodT ρ0 X w0 fx N q a w)
     subst h3
     exact hQ (.normal j) (by rw [yE]; exact ⟨j, hj, rfl⟩) a w hgj
   ·cases hm
  ·split at hm
   ·rename_i x hr
    split at hm
    ·rename_i hc
     simp only [yA] at hm
     subst hm
     rcases hrd with rfl | hrd
     ·simp only [cw, yG] at hd
      obtain ⟨ps, h1, h2⟩ := hd
      obtain ⟨e, he, hgr⟩ := hg.reserve _
      have hops := opsYD_ok (C := fun f zas h0 mv R => Callable P f ∧ Fn P f zas h0 mv R) (it := fun f zas fx k Y h K => Callable P f ∧ Iter P f zas fx k Y h K) (rk := rk) (K := fun s => ∃ q ∈ ps, (∀ i, get s.e i = q.1.get i) ∧ s.h = q.2) hcl hyd h1 he fun q hq e' he' => ⟨q, hq, he', rfl⟩
      cases draw with
      | false => exact wpIn_region_list (aOpsY_sound (hcx fx yy rk) hy (hN h2.symm) _ _ _ _ a w hr hgr hops)
      | true =>
       simp only [Bool.not_true, Bool.false_or, yB] at hc
       exact yreg_in hP (hcx fx yy rk) hy hQo (hN h2.symm) hr hc.1 hc.2 hgr hops
     ·exact absurd hrd.2 (by simp [inRd])
    ·cases hm
   ·cases hm
  ·split at hm
   ·rename_i p' x hpl hr
    split at hm
    ·rename_i hlt
     simp only [yA] at hm
     subst hm
     rcases hrd with rfl | hrd
     ·simp only [cw] at hd
      split at hd
      ·cases hd
      ·rename_i ps h1
       simp only [yG] at hd
       obtain ⟨js, h2, h3⟩ := hd
       obtain ⟨e, he, hgr⟩ := hg.reserve _
       obtain ⟨xs, h4, h5⟩ := bindL_ok h1
       refine ytree_in hP (hcx fx yy none) hy hQo (K := fun s => ∃ q ∈ ps, (∀ i, get s.e i = q.1.get i) ∧ s.h = q.2) ?_ hpl hr hlt hgr (planD_ok hcl h4 he fun q hq e' he' => ?_)
       ·rintro s a w ⟨q, hq, h6, h7⟩ hg
        obtain ⟨j, hj, hgj⟩ := joinD_ok h2 hq (⟨s.e, s.b, h6, by rw [← h7]; exact hg⟩ : GoodT ρ0 X w0 fx N q a w)
        subst h3
        exact hQ (.normal j) (by rw [yE]; exact ⟨j, hj, rfl⟩) a w hgj
       ·obtain ⟨zs, h6, h7⟩ := h5 q hq
        exact opsYD_ok (C := fun f zas h0 mv R => Callable P f ∧ Fn P f zas h0 mv R) (it := fun f zas fx k Y h K => Callable P f ∧ Iter P f zas fx k Y h K) hcl hyd h6 he' fun z hz e2 he2 => ⟨z, h7 z hz, he2, rfl⟩
     ·exact absurd hrd.2 (by simp [inRd])
    ·cases hm
   ·cases hm
  ·simp only [yA] at hm
   subst hm
   simp [cw] at hd
  ·cases hm
 | seq x y iha ihb =>
  intro l0 l hm r fx yy rk ρ0 w0 hrd hro hy n0 yd hfn hyd Q hQo p outs hd hQ a w hg
  have key : ∀ {x' y' lx ly : LCode} {p : Pt}, rlC P N x lx = some x' → rlC P N y ly = some y' → (r = none ∨ (codeRd x = true ∧ inRd x' = true)) → (r = none ∨ (codeRd y = true ∧ inRd y' = true)) →
    andD (cw call mvf iter x' fx n0 yd rk p) (cw call mvf iter y' fx n0 yd rk) = some outs → GoodT ρ0 X w0 fx N p a w → (Code.seq x y).wpIn (FR r) 0 P Q a w := by
   intro x' y' lx ly p h1 h2 hra hrb hd hg
   unfold andD at hd
   obtain ⟨os, h3, h4⟩ := bindL_ok hd
   refine wpIn_seq (iha _ _ h1 r fx yy rk ρ0 w0 hra hro hy n0 yd hfn hyd _ (LetsOut_then hQo) p os h3 (fun o ho a w h => ?_) a w hg)
   obtain ⟨zs, h5, h6⟩ := h4 o ho
   cases o with
   | normal q => exact ihb _ _ h2 r fx yy rk ρ0 w0 hrb hro hy n0 yd hfn hyd Q hQo q zs h5 (fun o ho => hQ o (h6 o ho)) a w h
   | exit j q =>
    simp only [yA] at h5
    subst h5
    exact hQ _ (h6 _ (by simp)) a w h
   | ret q =>
    simp only [yA] at h5
    subst h5
    exact hQ _ (h6 _ (by simp)) a w h
  simp only [rlC] at hm
  split at hm
  ·split at hm
   ·rename_i x' y' h1 h2
    simp only [yA] at hm
    subst hm
    exact key h1 h2 (hrd.imp (fun h => h) fun h => by simp only [codeRd, inRd, yB] at h; exact ⟨h.1.1, h.2.1⟩) (hrd.imp (fun h => h) fun h => by simp only [codeRd, inRd, yB] at h; exact ⟨h.1.2, h.2.2⟩) hd hg
   ·cases hm
  ·split at hm
   ·rename_i x' y' h1 h2
    simp only [yA] at hm
    subst hm
    simp only [cw] at hd
    split at hd
    ·rename_i q hf
     obtain ⟨e, b, he, hgd⟩ := hg
     obtain ⟨s', ⟨g1, g2⟩, hgd'⟩ := frzP_good (K := fun s => (∀ i, get s.e i = q.1.get i) ∧ s.h = q.2) _ _ (frzD_ok (b := b) _ p.1 p.2 e he hf fun e' he' => ⟨he', rfl⟩) hgd
     exact key h1 h2 (hrd.imp (fun h => h) fun h => by simp only [codeRd, inRd, yB] at h; exact ⟨h.1.1, h.2.1⟩) (hrd.imp (fun h => h) fun h => by simp only [codeRd, inRd, yB] at h; exact ⟨h.1.2, h.2.2⟩) hd ⟨s'.e, s'.b, g1, by rw [← g2]; exact hgd'⟩
    ·cases hd
   ·cases hm
  ·simp only [yA] at hm
   subst hm
   simp [cw] at hd
  ·cases hm
 | cond c x y iha ihb =>
  intro l0 l hm r fx yy rk ρ0 w0 hrd hro hy n0 yd hfn hyd Q hQo p outs hd hQ a w hg
  simp only [rlC] at hm
  split at hm
  ·split at hm
   ·rename_i x' y' h1 h2
    simp only [yA] at hm
    subst hm
    have hra : r = none ∨ (codeRd x = true ∧ inRd x' = true) := hrd.imp (fun h => h) fun h => by simp only [codeRd, inRd, yB] at h; exact ⟨h.1.1, h.2.1⟩
    have hrb : r = none ∨ (codeRd y = true ∧ inRd y' = true) := hrd.imp (fun h => h) fun h => by simp only [codeRd, inRd, yB] at h; exact ⟨h.1.2, h.2.2⟩
    simp only [cw] at hd
    have hev : ∀ t, evT p.1 c = .v (.bool t) → a.eval c = .bool t := by
     intro t ht
     obtain ⟨e, b, he, ρ, _, ⟨_, hre⟩, _⟩ := hg
     have := ev_rep hre c
     rw [ev_ok he, ht] at this
     exact this
    split at hd
    ·rename_i ht
     refine wpIn_cond (hev _ ht) ?_
     exact iha _ _ h1 r fx yy rk ρ0 w0 hra hro hy n0 yd hfn hyd Q hQo p outs hd hQ a w hg
    ·rename_i ht
     refine wpIn_cond (hev _ ht) ?_
     exact ihb _ _ h2 r fx yy rk ρ0 w0 hrb hro hy n0 yd hfn hyd Q hQo p outs hd hQ a w hg
    ·cases hd
   ·cases hm
  ·cases hm
 | block i x iha =>
  intro l0 l hm r fx yy rk ρ0 w0 hrd hro hy n0 yd hfn hyd Q hQo p outs hd hQ a w hg
  simp only [rlC] at hm
  split at hm
  ·split at hm
   ·rename_i x' h1
    simp only [yA] at hm
    subst hm
    simp only [cw, blockD] at hd
    split at hd
    ·cases hd
    ·rename_i os h2
     split at hd
     ·cases hd
     ·rename_i ps h3
      simp only [yA] at hd
      subst hd
      have hnorm : ∀ q a w, Out.normal q ∈ os.map (leave i) → GoodT ρ0 X w0 fx N q a w → Q .normal a w := by
       intro q a w hq hgq
       obtain ⟨j, hj, hgj⟩ := joinD_ok h3 (norms_mem hq) hgq
       exact hQ (.normal j) (by simp only [List.mem_append, yE]; exact .inl ⟨j, hj, rfl⟩) a w hgj
      refine wpIn_block (iha _ _ h1 r fx yy rk ρ0 w0 hrd hro hy n0 yd hfn hyd (Exit.inBlock i Q) (fun ⟨a, w, hq⟩ => hQo ⟨a, w, hq⟩) p os h2 (fun o ho a w h => ?_) a w hg)
      cases o with
      | normal q => exact hnorm q a w (by rw [yE]; exact ⟨_, ho, rfl⟩) h
      | exit j q =>
       show if j = i then _ else _
       split
       ·rename_i hj
        exact hnorm q a w (by rw [yE]; exact ⟨_, ho, by simp [leave, hj]⟩) h
       ·rename_i hj
        exact hQ (.exit j q) (vF _ (others_mem (by rw [yE]; exact ⟨_, ho, by simp [leave, hj]⟩) (by simp))) a w h
      | ret q => exact hQ (.ret q) (vF _ (others_mem (by rw [yE]; exact ⟨_, ho, rfl⟩) (by simp))) a w h
   ·cases hm
  ·cases hm
 | loop x iha =>
  intro l0 l hm r fx yy rk ρ0 w0 hrd hro hy n0 yd hfn hyd Q hQo p outs hd hQ a w hg
  simp only [rlC] at hm
  split at hm
  ·split at hm
   ·rename_i x' h1
    simp only [yA] at hm
    subst hm
    simp only [cw] at hd
    refine wpIn_loop_ghost (fun n a w => ∃ q zs, loopD fx n0 (cw call mvf iter x' fx n0 yd rk) n q = some zs ∧ (∀ z ∈ zs, z ∈ outs) ∧ GoodT ρ0 X w0 fx N q a w) 3000 ⟨p, outs, hd, fun _ h => h, hg⟩ ?_
    rintro n a' w' ⟨q, zs, h2, h3, hgq⟩
    cases n with
    | zero => simp [loopD] at h2
    | succ n =>
     simp only [loopD, andD] at h2
     split at h2
     rotate_left
     ·cases h2
     rename_i qg hqg
     have hgq' := gcD_ok hfn hqg hgq
     obtain ⟨os, h4, h5⟩ := bindL_ok h2
     refine iha _ _ h1 r fx yy rk ρ0 w0 hrd hro hy n0 yd hfn hyd _ (LetsOut_then hQo) qg os h4 (fun o ho a w h => ?_) a' w' hgq'
     obtain ⟨ys, h6, h7⟩ := h5 o ho
     cases o with
     | normal q' => exact ⟨n, yW n, q', ys, h6, fun z hz => h3 z (h7 z hz), h⟩
     | exit j q' =>
      simp only [yA] at h6
      subst h6
      exact hQ _ (h3 _ (h7 _ (by simp))) a w h
     | ret q' =>
      simp only [yA] at h6
      subst h6
      exact hQ _ (h3 _ (h7 _ (by simp))) a w h
   ·cases hm
  ·cases hm
 | rangeFunc g ps asg body iha ihb => exact cw_rfn hP hcall hiter iha ihb
 | _ => intro l0 l hm; simp [rlC] at hm
end
theorem resD_ok {p : Pt} {e : Env} (he : ∀ i, get e i = p.1.get i) {K : List V → Prop} : ∀ (ls : List LRes) (acc xs : List V), resD p ls = some xs → K (acc.reverse ++ xs) → resP p.2 e ls acc K
 | [], acc, xs, h, hK => by
  simp only [resD, yA] at h
  subst h
  simpa [resP] using hK
 | .tmp t :: r, acc, xs, h, hK => by
  simp only [resD] at h
  split at h
  ·rename_i ys hy
   simp only [yA] at h
   subst h
   simp only [resP, he]
   exact resD_ok he r _ ys hy (by simpa using hK)
  ·cases h
 | .cell a n :: r, acc, xs, h, hK => by
  simp only [resD] at h
  split at h
  ·rename_i x ys hx hy
   simp only [yA] at h
   subst h
   simp only [resP, he]
   exact load_ok (K := fun x => resP p.2 e r (x :: acc) K) hx (resD_ok he r _ ys hy (by simpa using hK))
  ·cases h
theorem argsT_get : ∀ (i : Nat) (xs : List V) (E : Tr) (j : Nat), (argsT i xs E).get j = if i ≤ j ∧ j < i + xs.length then (xs[j - i]?).getD .any else E.get j
 | i, [], E, j => by
  simp only [argsT, List.length_nil, Nat.add_zero]
  rw [if_neg (by omega)]
 | i, x :: r, E, j => by
  simp only [argsT]
  rw [argsT_get (i + 1) r]
  simp only [putT, forceV_eq, List.length_cons]
  rw [Tr.get_put _ _ _ _ _ (yW i)]
  by_cases h : j = i
  ·subst h
   rw [if_neg (by omega), if_pos rfl, if_pos (by omega)]
   simp
  ·by_cases h2 : i + 1 ≤ j ∧ j < i + 1 + r.length
   ·rw [if_pos h2, if_pos (by omega), show j - i = (j - (i + 1)) + 1 by omega]
    simp
   ·rw [if_neg h2, if_neg h, if_neg (by omega)]
theorem args_get (xs : List V) (j : Nat) : get (args0 0 xs) j = (argsT 0 xs .lf).get j := by
 rw [args0_get, argsT_get]
 simp only [yO, if_true, Nat.sub_zero, vE, true_and]
 split
 ·rfl
 ·rename_i h
  have : xs[j]? = none := by simpa using h
  rw [this]
  rfl
theorem body_ok (hP : P.follows .mixedOrders = true) {call : CallD} {mvf : FuncId → Option Nat} {iter : ItD} (hcall : ∀ f zas h0 mv r h', call f zas h0 mv = some (r, h') → Callable P f ∧ Fn P f zas h0 mv (fun r1 h1 => r1 = r ∧ h1 = h')) (hiter : ItOk P iter)
  {f : FuncId} {en : Ent} (hl : rlF P f en.code = some (en.code, en.rs, en.nt)) {args : List V} {h0 : List Blk} {mv : List Nat} {r : V} {h' : List Blk}
  (hd : bodyD call mvf iter en args h0 mv ((yC h0.length).filter fun k => !(hasN mv k)) = some (r, h')) : Fn P f args h0 mv (fun r1 h1 => r1 = r ∧ h1 = h') := by
 generalize hfxd : ((yC h0.length).filter fun k => !(hasN mv k)) = fx at hd
 unfold bodyD at hd
 split at hd
 ·rename_i hc
  simp only [yB, decide_eq_true_eq] at hc
  split at hd
  ·rename_i outs hcw
   unfold rlF at hl
   split at hl
   ·rename_i fn hf
    split at hl
    ·rename_i c rs' hb hres ht
     simp only [yB, vH, decide_eq_true_eq] at ht
     cases hm : rlC P fn.ntmps c en.code with
     | none => simp [hm] at hl
     | some l1 =>
      simp only [hm, Option.map_some, yA, vG] at hl
      obtain ⟨rfl, hrs, hnt⟩ := hl
      have hfx : keepP fx h0 := keep_of hc.2
      have hmv : ∀ k, k < h0.length → k ∉ mv → k ∈ fx := by
       intro k hk hkm
       rw [← hfxd, List.mem_filter]
       refine ⟨by simpa using hk, ?_⟩
       cases hh : hasN mv k with
       | true => exact absurd (hasN_iff.1 hh) hkm
       | false => rfl
      intro ρ X w vals hr ha
      have hvl := RepL_len ha
      refine (callsIn_wide (n := 0)).1 (callsIn_of_wp_marks hf hb trivial ?_)
      have hg : GoodT ρ X w fx fn.ntmps (argsT 0 args .lf, h0) { tmps := vals.toArray ++ Array.replicate (fn.ntmps - vals.toArray.size) undef, defers := [] } w :=
       ⟨args0 0 args, 0, args_get args, ρ, ⟨⟨Fr.refl _ _, fun _ _ => rfl⟩, hfx⟩, ⟨hr, args0_rep ha _⟩, by simp; omega, Marks.nil⟩
      have hend : ∀ p, finD fx h0.length en.rs p = some (r, h') → ∀ s, (∀ i, get s.e i = p.1.get i) → s.h = p.2 → ∀ a w', Good ρ X w fx fn.ntmps s a w' → ∃ v, (results fn a.tmps).run P w' = .ok v w' ∧ ∃ val r1 h1 ρ', Ending.returned v = .returned val ∧ ((r1 = r ∧ h1 = h') ∧ h0.length ≤ h1.length) ∧ Fr ρ w ρ' w' ∧ Rep ρ' X w' h1 ∧ RepV ρ' X w' r1 val ∧
        ∀ k, k < h0.length → k ∉ mv → ρ' k = ρ k := by
       rintro p hfin ⟨e, h, b⟩ he rfl a w' ⟨ρ', ⟨⟨hf1, hfx1⟩, hk1⟩, ⟨hr1, he1⟩, hN1, hd1⟩
       unfold finD at hfin
       split at hfin
       ·cases hfin
       ·rename_i xs hxs
        generalize hL : keepN h0.length p.2 (namesL xs) = L at hfin
        simp only at hfin
        split at hfin
        ·rename_i hcc
         simp only [yB] at hcc
         simp only [yA, vG] at hfin
         obtain ⟨rfl, rfl⟩ := hfin
         obtain ⟨hn, hlt, hle⟩ := numB_ok hcc.1
         obtain ⟨ys, vs, h5, h6, h7⟩ := resP_run hr1 he1 (K := fun ys => ys = xs) fn.results.toList rs' [] [] hres trivial (by rw [hrs]; exact resD_ok he _ [] xs hxs rfl)
         simp only [vB, vC] at h5
         subst h5
         refine ⟨tupU vs, results_run ht.1 h7, _, _, _, calleeLoc ρ' L, rfl, ⟨⟨rfl, rfl⟩, ?_⟩, hf1.trans gc_fr, gc_rep hr1 hn hlt, gc_val (tup_rep h6), fun k hk hkm => ?_⟩
         ·rw [List.length_map, ← hL]
          simp [keepN]
         ·rw [callee_at (by rw [← hL]; exact keepN_get hk)]
          exact hfx1 k (hmv k hk hkm)
        ·cases hfin
      have hone : ∀ o ∈ outs, (∃ p, o = .normal p ∨ o = .ret p) ∧ finD fx h0.length en.rs o.pt = some (r, h') := by
       intro o ho
       unfold endD at hd
       split at hd
       ·simp only [vN] at ho; subst ho; exact ⟨⟨_, .inl rfl⟩, hd⟩
       ·simp only [vN] at ho; subst ho; exact ⟨⟨_, .inr rfl⟩, hd⟩
       ·cases hd
      refine cw_sound (P := P) (X := X) (N := fn.ntmps) hP hcall hiter c _ _ hm none fx (fun _ _ _ _ => False) none ρ w (.inl rfl) trivial (fun _ => YOk_none) h0.length _ (fun k hk => by rw [← hfxd, List.mem_filter] at hk; simpa using hk.1)
       (fun _ _ _ _ _ _ _ h _ => by simp at h) _ ?_ _ outs hcw (fun o ho a w' hgd => ?_) _ _ hg
      ·rintro ⟨a, w', val, _, _, _, hq, _⟩
       cases hq
      ·obtain ⟨⟨p, hp⟩, hfin⟩ := hone o ho
       obtain ⟨e, b, he, hgd⟩ := hgd
       rcases hp with rfl | rfl
       ·exact leaves_of (hend p hfin ⟨e, p.2, b⟩ he rfl) a.defers a w' rfl hgd
       ·exact leaves_of (hend p hfin ⟨e, p.2, b⟩ he rfl) a.defers a w' rfl hgd
    ·cases hl
   ·cases hl
  ·cases hd
 ·cases hd
theorem heapsD_ok : ∀ {outs : List Out} {hs : List (List Blk)}, heapsD outs = some hs → ∀ o ∈ outs, (∃ p, (o = .normal p ∨ o = .ret p) ∧ p.2 ∈ hs)
 | [], _, _, o, ho => by simp at ho
 | x :: r, hs, h, o, ho => by
  simp only [heapsD] at h
  split at h
  ·rename_i p l hl
   simp only [yA] at h
   subst h
   rcases yP.1 ho with rfl | ho
   ·exact ⟨p, .inl rfl, by simp⟩
   ·obtain ⟨q, h1, h2⟩ := heapsD_ok hl o ho
    exact ⟨q, h1, by simp [h2]⟩
  ·rename_i p l hl
   simp only [yA] at h
   subst h
   rcases yP.1 ho with rfl | ho
   ·exact ⟨p, .inr rfl, by simp⟩
   ·obtain ⟨q, h1, h2⟩ := heapsD_ok hl o ho
    exact ⟨q, h1, by simp [h2]⟩
  ·cases h
theorem ibody_ok (hP : P.follows .mixedOrders = true) {call : CallD} {mvf : FuncId → Option Nat} {iter : ItD} (hcall : ∀ f zas h0 mv r h', call f zas h0 mv = some (r, h') → Callable P f ∧ Fn P f zas h0 mv (fun r1 h1 => r1 = r ∧ h1 = h')) (hiter : ItOk P iter)
  {f : FuncId} {en : Ent} (hl : rlF P f en.code = some (en.code, en.rs, en.nt)) {args : List V} {fx : List Nat} {k : Nat} {yd : YtD} {h : List Blk} {hs : List (List Blk)}
  (hd : ibodyD call mvf iter en args fx k yd h = some hs) {Y : Yt} {K : List Blk → Prop}
  (hY : ∀ xs E h b rs Z, yd xs (E, h) = some rs → (∀ r ∈ rs, AT b r.2 (Z r.1)) → Y xs ⟨E.toEnv, h, b⟩ Z) (hK : ∀ h' ∈ hs, K h') : Iter P f args fx k Y h K := by
 unfold ibodyD at hd
 split at hd
 ·rename_i hc
  simp only [yB, decide_eq_true_eq, List.isEmpty_iff, yV, Nat.blt_eq] at hc
  split at hd
  ·rename_i outs hcw
   unfold rlF at hl
   split at hl
   ·rename_i fn hf
    split at hl
    ·rename_i c rs' hb hres ht
     simp only [yB, vH, decide_eq_true_eq] at ht
     cases hm : rlC P fn.ntmps c en.code with
     | none => simp [hm] at hl
     | some l1 =>
      simp only [hm, Option.map_some, yA, vG] at hl
      obtain ⟨rfl, hrs, hnt⟩ := hl
      have hnil : fn.results.toList = [] := by
       cases hl : fn.results.toList with
       | nil => rfl
       | cons r rs =>
        rw [hrs, hc.1.2] at hres
        rw [hl] at hres
        simp only [rlRes] at hres
        split at hres <;> simp at hres
      intro ρ X w vals hr ha hfx hYk
      have hvl := RepL_len ha
      refine (callsIn_wide (n := 0)).1 (callsIn_of_wp_marks hf hb trivial ?_)
      have hg : GoodT ρ X w fx fn.ntmps (argsT 0 args .lf, h) { tmps := vals.toArray ++ Array.replicate (fn.ntmps - vals.toArray.size) undef, defers := [] } w :=
       ⟨args0 0 args, 0, args_get args, ρ, ⟨⟨Fr.refl _ _, fun _ _ => rfl⟩, hfx⟩, ⟨hr, args0_rep ha _⟩, by simp; omega, Marks.nil⟩
      have hend : ∀ s, K s.h → ∀ a w', Good ρ X w fx fn.ntmps s a w' → ∃ v, (results fn a.tmps).run P w' = .ok v w' ∧ ∃ val h' ρ', Ending.returned v = .returned val ∧ K h' ∧ (Fr ρ w ρ' w' ∧ Rep ρ' X w' h') ∧ (∀ j ∈ fx, ρ' j = ρ j) ∧ keepP fx h' := by
       intro s hK a w' hgood
       obtain ⟨ρ', ⟨⟨hf1, hfx1⟩, hk1⟩, ⟨hr1, he1⟩, hN1, hd1⟩ := hgood
       exact ⟨tupU [], results_run (us := []) (by rw [hnil]; simp) (by rw [hnil]; trivial), _, s.h, ρ', rfl, hK, ⟨hf1, hr1⟩, hfx1, hk1⟩
      refine cw_sound (P := P) (X := X) (N := fn.ntmps) hP hcall hiter c _ _ hm none fx (fun k' xs s Z => k' = k ∧ ∃ E : Tr, (∀ i, get s.e i = E.get i) ∧ Y xs ⟨E.toEnv, s.h, s.b⟩ Z) none ρ w (.inl rfl) trivial (fun k' => ?_) h.length _ hc.2.2 ?_ _ ?_ _ outs hcw (fun o ho a w' hgd => ?_) _ _ hg
      ·intro ρ1 w1 s tmps xs vs Z h1 h2 h3 h5 h6 h7
       obtain ⟨rfl, E, hE, h7⟩ := h7
       exact hYk ρ1 w1 ⟨E.toEnv, s.h, s.b⟩ tmps xs vs Z h1 h2 h3 (fun i => by rw [toEnv_get, ← hE]; exact h5 i) h6 h7
      ·intro k' xs s E rs Z hs hrs hZ
       simp only at hrs
       split at hrs
       ·rename_i hk
        rw [Nat.beq_eq] at hk
        exact ⟨hk, E, hs, hY xs E s.h s.b rs Z hrs hZ⟩
       ·cases hrs
      ·rintro ⟨a, w', val, _, _, hq, _⟩
       cases hq
      ·obtain ⟨p, hp, hin⟩ := heapsD_ok hd o ho
       obtain ⟨e, b, he, hgd⟩ := hgd
       rcases hp with rfl | rfl
       ·exact leaves_of (hend ⟨e, p.2, b⟩ (hK _ hin)) a.defers a w' rfl hgd
       ·exact leaves_of (hend ⟨e, p.2, b⟩ (hK _ hin)) a.defers a w' rfl hgd
    ·cases hl
   ·cases hl
  ·cases hd
 ·cases hd
theorem findM_ok {f : FuncId} {zas : List V} {h0 : List Blk} {r : V} {h : List Blk} : ∀ {M : List Memo}, findM f zas h0 M = some (r, h) → ∃ m ∈ M, m.f = f ∧ m.zas = zas ∧ m.h0 = h0 ∧ m.r = r ∧ m.h = h
 | [], hf => by simp [findM] at hf
 | m :: l, hf => by
  simp only [findM] at hf
  split at hf
  ·rename_i hc
   simp only [yB, Nat.beq_eq] at hc
   simp only [yA, vG] at hf
   exact ⟨m, by simp, hc.1, eqL_ok hc.2.1, eqBs_ok hc.2.2, hf.1, hf.2⟩
  ·obtain ⟨m', h1, h2⟩ := findM_ok hf
   exact ⟨m', by simp [h1], h2⟩
def okL (P : Program) : Nat → List (Option Ent) → Prop
 | _, [] => True
 | i, none :: r => okL P (i + 1) r
 | i, some en :: r => rlF P i en.code = some (en.code, en.rs, en.nt) ∧ okL P (i + 1) r
theorem okL_get : ∀ {T : List (Option Ent)} {i : Nat}, okL P i T → ∀ (f : Nat) (en : Ent), T[f]? = some (some en) → rlF P (i + f) en.code = some (en.code, en.rs, en.nt)
 | none :: r, i, h, 0, en, he => by simp at he
 | some e :: r, i, h, 0, en, he => by
  simp only [List.getElem?_cons_zero, yA] at he
  subst he
  exact h.1
 | none :: r, i, h, f + 1, en, he => by
  have := okL_get (i := i + 1) h f en (by simpa using he)
  rwa [show i + (f + 1) = i + 1 + f by omega]
 | some e :: r, i, h, f + 1, en, he => by
  have := okL_get (i := i + 1) h.2 f en (by simpa using he)
  rwa [show i + (f + 1) = i + 1 + f by omega]
 | [], _, _, _, _, he => by simp at he
def Memo.ok (P : Program) (m : Memo) : Prop := Callable P m.f ∧ Fn P m.f m.zas m.h0 [] (fun r h => r = m.r ∧ h = m.h)
theorem fiD_ok (hP : P.follows .mixedOrders = true) {T : List (Option Ent)} (hT : okL P 0 T) {M : List Memo} (hM : ∀ m ∈ M, m.ok P) : ∀ d : Nat,
  (∀ (f : FuncId) (zas : List V) (h0 : List Blk) (mv : List Nat) (r : V) (h' : List Blk), (fiD T M d).1 f zas h0 mv = some (r, h') → Callable P f ∧ Fn P f zas h0 mv (fun r1 h1 => r1 = r ∧ h1 = h')) ∧ ItOk P (fiD T M d).2
 | 0 => ⟨fun _ _ _ _ _ _ h => by simp [fiD] at h, fun _ _ _ _ _ _ _ h => by simp [fiD] at h⟩
 | d + 1 => by
  obtain ⟨ih1, ih2⟩ := fiD_ok hP hT hM d
  refine ⟨fun f zas h0 mv r h' h => ?_, fun f zas fx k yd h hs hd => ?_⟩
  ·simp only [fiD] at h
   split at h
   ·rename_i x hx
    simp only [yA] at h
    subst h
    split at hx
    ·rename_i hmv
     have hmv' : mv = [] := by simpa using hmv
     subst hmv'
     obtain ⟨m, h1, rfl, rfl, rfl, rfl, rfl⟩ := findM_ok hx
     exact hM m h1
    ·cases hx
   ·split at h
    ·rename_i en hen
     have hl := okL_get hT f en hen
     rw [vE] at hl
     exact ⟨rlF_callable hl, body_ok hP ih1 ih2 hl h⟩
    ·cases h
  ·simp only [fiD] at hd
   split at hd
   ·rename_i en hen
    have hl := okL_get hT f en hen
    rw [vE] at hl
    exact ⟨rlF_callable hl, fun Y K hY hK => ibody_ok hP ih1 ih2 hl hd hY hK⟩
   ·cases hd
theorem fnD_ok (hP : P.follows .mixedOrders = true) {T : List (Option Ent)} (hT : okL P 0 T) {M : List Memo} (hM : ∀ m ∈ M, m.ok P) (d : Nat) (f : FuncId) (zas : List V) (h0 : List Blk) (mv : List Nat) (r : V) (h' : List Blk)
  (h : fnD T M d f zas h0 mv = some (r, h')) : Callable P f ∧ Fn P f zas h0 mv (fun r1 h1 => r1 = r ∧ h1 = h') := (fiD_ok hP hT hM d).1 f zas h0 mv r h' h
end
end Go.Fx
