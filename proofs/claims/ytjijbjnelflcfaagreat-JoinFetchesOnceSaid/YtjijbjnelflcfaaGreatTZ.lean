import Derived.Test.YtjijbjnelflcfaaGreatT12
import Derived.Shelf.Spec.SlicesInsertGrow
import Derived.Test.YtjijbjnelflcfaaGreatProg
import Derived.Lib.SlicesDelete
import Derived.Lib.SliceRun
import Derived.Deep.RegionLaw
import Derived.Shelf.RegionOpenPlain
set_option linter.unusedVariables false
set_option linter.unusedSimpArgs false
set_option linter.unusedSectionVars false
open Bool renaming true_and → yA, eq_iff_iff → vO, or_eq_false_iff → vP
open Nat renaming add_assoc → yB, le_refl → yE, lt_or_ge → yI, min → yS, min_def → vB, sub_mul → vR, lt_of_lt_of_le → vS, mul_le_mul_right → uC, add_mul → uD, le_trans → uN, le_of_lt → uP, zero_add → uR, sub_self → uT
open List renaming map → yC, getElem_mem → yD, getElem?_eq_some_iff → yF, length_drop → yG, getElem?_eq_getElem → yH, getElem_of_mem → yJ, take_of_length_le → yK, length_take → yL, getElem?_drop → yM, take → yN, drop_succ_cons → yO, take_succ_cons → yP, append_nil → yQ, getElem?_take_of_lt → yT, length_append → yU, mem_map → yW, map_append → yX, getElem?_append_right → yY, append_assoc → yZ, length_eq_zero_iff → vA, drop → vC, replicate_succ → vD, getElem?_append_left → vE, take_length → vF, pairwise_iff_getElem → vG, all_eq_true → vH, map_set → vK, take_succ_eq_append_getElem → vL, mem_of_mem_take → vM, mem_flatten → vN, mem_of_mem_drop → vQ, map_map → vT, map_cons → vU, map_nil → vV, getElem?_cons_succ → vW, length_take_of_le → vX, replicate → vY, any_eq_true → vZ, drop_of_length_le → uF, length_map → uH, find?_eq_some_iff_getElem → uI, find?_eq_none → uK, mem_append → uM, getElem?_cons_zero → uQ, map_take → uS, set_append_right → uU, length_filter_le → uX
open Int renaming natCast_zero → yV, toNat → uA, fdiv_eq_ediv_of_nonneg → uV
open Array renaming getElem?_eq_getElem → vI, getElem?_append_left → uB, getElem?_toList → uE, size_push → uG, length_toList → uO, getElem?_push_lt → uW
open Option.some renaming injEq → vJ
open Option renaming toList_some → uJ, toList_none → uL
namespace Go.Fx.J
open Go Go.Fx Go.Proofs Go.Fx.R
set_option maxRecDepth 20000
structure E114 (l : List Wai) (k i : Nat) (e : Env) : Prop where
 e0 : get e 0 = .itr k
 e6 : get e 6 = wais l
 e7 : get e 7 = .i l.length
 e8 : get e 8 = .i i
structure It114 {G : Type} (hp : G → List Blk) (L : Nat) (l : List Wai) (k a : Nat) (fx : List Nat) (x y : V) : Prop where
 len : ∀ g, (hp g).length = L
 ha : ∀ g tl, (hp g ++ tl)[a]? = some (.var [x, y, wais l])
 kp : ∀ g, keepP fx (hp g)
 wf : ∀ g, wfB (hp g) (hp g)
 lk : ∀ g, ∃ t e, (hp g)[k]? = some (.rcd t e)
section
variable {G : Type} {hp : G → List Blk} {L : Nat} {l : List Wai} {k a : Nat} {fx : List Nat} {x y : V} {Y : Yt} {K : List Blk → Prop} {Inv : Nat → G → Prop}
abbrev pat114 {G : Type} (hp : G → List Blk) (l : List Wai) (k : Nat) (g : Nat × G) : St := ⟨[(8, .i g.1), (7, .i l.length), (6, wais l), (0, .itr k)], hp g.2, 0⟩
theorem it114 (H : It114 hp L l k a fx x y)
  (hY : ∀ i g (hi : i < l.length), Inv i g → ∀ (e : Env) (bb : Nat) (Z : V → St → Prop), E114 l k i e →
   (∀ e' g' tl, E114 l k i e' → Inv (i + 1) g' → Z (.b true) ⟨e', hp g' ++ tl, bb⟩) → Y [spans l[i].need] ⟨e, hp g ++ [.var l[i].enc], bb⟩ Z)
  (hK : ∀ g, Inv l.length g → K (hp g)) (g : G) (hg : Inv 0 g) :
  I0 Tryz.prog 114 [.itr k, .ptr a 0 0] fx k Y (hp g) K := by
 refine itN_of pol fx lw114 (by simp) ?_
 have hlen := H.len g
 have a0 := H.ha g []
 rw [yQ] at a0
 obtain ⟨tk, ek, lk⟩ := H.lk g
 unfold c114
 simp -implicitDefEqProofs only [rX,↓rY,ofConst,↓reduceIte,reduceCtorEq,args0,a0]
 intro hm
 refine loopP_intro (pat114 hp l k) (fun g => g.1 ≤ l.length ∧ Inv g.1 g.2) (fun g => l.length - g.1) (0, g) ⟨by simp, hg⟩ ?_ ?_
 ·simp -implicitDefEqProofs only [rX,↓reduceIte,Nat.reduceEqDiff,reduceCtorEq,leE,liveP,wfE,wfV,lk,eq_true (H.kp g),eq_true (H.wf g),yV]
  exact leH_refl _
 rintro ⟨i, g⟩ ⟨hi, hI⟩
 simp only at hi hI
 have hlen := H.len g
 have go : ∀ j tl, (hp g ++ tl)[L + j]? = tl[j]? := fun j tl => by
  rw [yY (by omega), hlen]; congr 1; omega
 have go0 : ∀ tl, (hp g ++ tl)[L]? = tl[0]? := go 0
 have gs : ∀ j tl B, (hp g ++ tl).set (L + j) B = hp g ++ tl.set j B := fun j tl B => by
  rw [uU _ _ (by omega), hlen]; congr 2; omega
 have gs0 : ∀ tl B, (hp g ++ tl).set L B = hp g ++ tl.set 0 B := gs 0
 unfold c114l0 pat114
 rcases yI i l.length with hi1 | hi1
 ·have hd : decide ((i : Int) < (l.length : Int)) = true := decide_eq_true (by omega)
  simp -implicitDefEqProofs only [rX,↓rY,ofConst,cells?,splice,↓reduceIte,Nat.reduceEqDiff,Nat.reduceAdd,reduceCtorEq,freshP,wt_len,wt_t,wt_1,wt_C,hd,hlen,go0,gs0]
  refine ⟨⟨by omega, by omega⟩, hi1, ?_⟩
  refine ⟨rfl, ?_⟩
  refine hY i g hi1 hI _ _ _ ⟨rfl, rfl, rfl, rfl⟩ ?_
  intro e' g' tl he' hI'
  simp -implicitDefEqProofs only [rX,↓rY,ofConst,↓reduceIte,Nat.reduceEqDiff,reduceCtorEq,leE,liveP,wfE,wfV,he'.e8]
  refine ⟨by simp only [lo, Fx.hi, maxLen] at *; omega, (i + 1, g'), ⟨⟨by show i + 1 ≤ l.length; omega, hI'⟩, by show l.length - (i + 1) < l.length - i; omega⟩, ?_⟩
  have e1 := he'.e0; have e2 := he'.e6; have e3 := he'.e7
  obtain ⟨tk, ek, lk⟩ := H.lk g'
  simp -implicitDefEqProofs only [rX,e1,e2,e3,eq_true (leH_app (hp g') tl),eq_true (H.kp g'),eq_true (H.wf g'),lk]
  rfl
 ·have hd : decide ((i : Int) < (l.length : Int)) = false := decide_eq_false (by omega)
  have hie : i = l.length := by omega
  subst hie
  have := hK g hI
  simp -implicitDefEqProofs only [rX,↓rY,↓reduceIte,Nat.reduceEqDiff,hd]
  first | exact this | simpa using this
end
theorem vs_vd {l : List Sp} : Vs l ↔ Vd l := by
 constructor
 ·rintro ⟨h1, h2⟩
  exact ⟨h1, fun s hs => by have := h1.1 s hs; have := h2 s hs; omega⟩
 ·rintro ⟨h1, h2⟩
  exact ⟨h1, fun s hs => by have := h2 s hs; omega⟩
theorem mid_add {l : List Sp} {s : Sp} (h : Vd l) (hs : Bs s) : Mid (l ++ [s]) := by
 intro t ht
 rcases uM.1 ht with ht | ht
 ·have := h.2 t ht; omega
 ·rw [List.mem_singleton] at ht; subst ht; unfold Bs at hs; omega
theorem ofS_snoc {l : List Sp} {k : Nat} (h : k < l.length) : ofS (l.take (k + 1)) = addS (ofS (l.take k)) l[k] := by
 rw [vL h]
 unfold ofS bothS
 rw [List.foldl_append]; rfl
theorem ok44 (K W : V) (fl : List Fet) (hb : ∀ f ∈ fl, Bs f.sp) : Ok 44 [.agg [K, .bro 3 (fl.map Fet.enc), W]] (Is (spans (ofS (fl.map (·.sp))))) := by
 refine okN_gv ?_
 refine ok_of lw44 (by simp) ?_
 unfold c44
 simp -implicitDefEqProofs only [rX,↓rY,ofConst,cells?,↓reduceIte,Nat.reduceEqDiff,freshP,cxN,yA,args0]
 intro hm
 have hbd : ∀ k, Bd ((fl.map (·.sp)).take k) := fun k s hs => by
  obtain ⟨f, hf, rfl⟩ := yW.1 (vM hs)
  exact hb f hf
 refine loopP_ghost (.virt 1 2 (by decide) (.nilE 3 1 rfl (.give (fun j => j == 1) (by simp) (.refl _)))) (fun k : Nat => ⟨[(9, .i k), (8, .i fl.length), (7, .bro 3 (fl.map Fet.enc)), (3, spans (ofS ((fl.map (·.sp)).take k)))], [], 1⟩) (fun k => k ≤ fl.length) (fun k => fl.length - k) 0 (by omega) ?_ ?_
 ·simp -implicitDefEqProofs only [rX,↓reduceIte,Nat.reduceEqDiff,leE,leH,keepP,wfE,wfB,wfV,yV,vD,St.give,gvE,gvV,gvL,gvH,gvB]
  rfl
 rintro k hk
 have hv := Vd.of (hbd k)
 unfold c44l0
 rcases yI k fl.length with hk' | hk'
 ·have hd : decide ((k : Int) < (fl.length : Int)) = true := decide_eq_true (by omega)
  have hkk : (0 : Int) ≤ k ∧ (k : Int) < fl.length := ⟨by omega, by omega⟩
  have hs := ofS_snoc (l := fl.map (·.sp)) (k := k) (by simpa using hk')
  have hbs := hb _ (yD hk')
  rw [List.getElem_map] at hs
  generalize ofS ((fl.map (·.sp)).take k) = o at hv hs ⊢
  simp -implicitDefEqProofs only [rX,↓rY,ofConst,cells?,splice,↓reduceIte,Nat.reduceEqDiff,Nat.reduceAdd,freshP,ft_len,ft_t,ft_d1,ft_C,yO,yA,hd]
  refine ⟨hkk, hk', ?_⟩
  refine call_is (ok82 o fl[k].sp (uN hv.len (by omega)) hv.1 (mid_add hv hbs)) (by simp [lendsOk, lendOk, lends, lend, wkL, wk, wkR, enS]) rfl trivial ?_
  simp -implicitDefEqProofs only [rX,↓rY,ofConst,↓reduceIte,Nat.reduceEqDiff,leE,leH,keepP,wfE,wfB,wfV,yA]
  exact ⟨by simp only [lo, Fx.hi, maxLen] at *; omega, k + 1, ⟨by omega, by omega⟩, by simp, by rw [hs]⟩
 ·have hd : decide ((k : Int) < (fl.length : Int)) = false := decide_eq_false (by omega)
  simp -implicitDefEqProofs only [rX,↓rY,↓reduceIte,Nat.reduceEqDiff,yA,hd]
  rw [yK (by simpa using hk')]
  exact ret_ro rfl
theorem ok94 (key : S) (W : List Wai) : Ok 94 [.agg [sv key, .any, wais W]] (IsA (.clo 114 [.ptr 0 0 0]) [.var [.any, .any, wais W]]) := by
 refine ok_of lw94 (by simp) ?_
 unfold c94
 simp -implicitDefEqProofs only [rX,↓rY,ofConst,cells?,↓reduceIte,Nat.reduceEqDiff,freshP,resP,tupV,leH,leB,leV,leVs,keepP,liveP,wfB,wfV,wfL,Nat.reduceLeDiff,cxN,yA,args0,retP_isA]
def nd (l : List Wai) : List Sp := (l.map (·.need)).flatten
theorem nd_s {l : List Wai} {i : Nat} (h : i < l.length) : nd (l.take (i + 1)) = nd (l.take i) ++ l[i].need := by
 unfold nd
 rw [vL h, yX, List.flatten_append]; simp
theorem nd_bd {l : List Wai} (h : ∀ w ∈ l, Bd w.need) : Bd (nd l) := by
 intro s hs
 unfold nd at hs
 obtain ⟨q, hq, hs⟩ := vN.1 hs
 obtain ⟨w, hw, rfl⟩ := yW.1 hq
 exact h w hw s hs
theorem bd_app {a b : List Sp} (ha : Bd a) (hb : Bd b) : Bd (a ++ b) := fun s hs => (uM.1 hs).elim (ha s) (hb s)
theorem bd_take {a : List Sp} {k : Nat} (ha : Bd a) : Bd (a.take k) := fun s hs => ha s (vM hs)
abbrev hp57 (key : S) (W : List Wai) (i : Nat) : List Blk := [.var [sv key, .any, wais W], .var [spans (ofS (nd (W.take i)))], .var [.any, .any, wais W], .rcd .ready [(3, .ptr 1 0 0)]]
theorem it57 (key : S) (W : List Wai) : It114 (hp57 key W) 4 W 3 2 [3] .any .any := by
 refine ⟨fun g => rfl, fun g tl => rfl, fun g => ⟨trivial, trivial⟩, fun g => ?_, fun g => ⟨_, _, rfl⟩⟩
 simp -implicitDefEqProofs only [rX,liveP,wfE,wfB,wfV,wfL]
theorem ok57 (key : S) (W : List Wai) (hb : ∀ w ∈ W, Bd w.need) : Ok 57 [.agg [sv key, .any, wais W]] (Is (spans (ofS (nd W)))) := by
 refine okN_gv ?_
 refine ok_of lw57 (by simp) ?_
 unfold c57
 simp -implicitDefEqProofs only [rX,↓rY,ofConst,cells?,↓reduceIte,Nat.reduceEqDiff,Nat.reduceAdd,freshP,cxN,yP,yA,args0]
 refine call_isA [.agg [sv key, .any, wais W]] (.clo 114 [.ptr 0 0 0]) (.clo 114 [.ptr 2 0 0]) [.var [.any, .any, wais W]] [.var [.any, .any, wais W]] (ok94 key W) (by simp [lendsOk, lendOk, lends, lend, wkL, wk, wkR]) rfl rfl trivial ?_
 simp -implicitDefEqProofs only [rX]
 refine rfn_go 3 rfl rfl trivial ?_
 refine I0_ghost (as' := [.itr 3, .ptr 2 0 0]) (h' := hp57 key W 0) rfl ⟨_, .virt 1 2 (by decide) (.nilB 1 [.nil] [.sl 4 0 0] rfl ⟨rfl, fun i a b h1 h2 => ?_⟩ (.give (fun j => j == 4) (by simp) (.refl _))), ?_⟩ (it114 (Inv := fun i g => g = i) (it57 key W) ?_ ?_ _ rfl)
 ·match i with
  | 0 => simp at h1 h2; subst h1 h2; exact .inr ⟨rfl, _, rfl⟩
  | i + 1 => simp at h1
 ·simp -implicitDefEqProofs only [rX,↓reduceIte,Nat.reduceAdd,reduceCtorEq,leE,leH,leB,keepP,liveP,wfE,wfB,wfV,wfL,args0,St.give,gvE,gvV,gvL,gvH,gvB,vD]
  exact ⟨⟨rfl, rfl⟩, ⟨rfl, trivial, rfl, trivial⟩, ⟨rfl, trivial⟩, ⟨trivial, trivial, rfl, trivial⟩, rfl, .inr rfl⟩
 ·rintro i g hi rfl e bb Z he hZ
  refine yR_go 5 rfl rfl rfl ?_
  unfold c57a0
  simp -implicitDefEqProofs only [rX,↓rY,↓reduceIte,Nat.reduceAdd,setPs]
  unfold c57r0
  simp -implicitDefEqProofs only [rX,↓rY,ofConst,↓reduceIte,Nat.reduceAdd]
  intro hml
  have hbn := hb _ (yD hi)
  have hb0 : Bd (nd (W.take g)) := nd_bd fun w hw => hb w (vM hw)
  have hst := nd_s hi
  have e1 := he.e0; have e2 := he.e6; have e3 := he.e7; have e4 := he.e8
  generalize W[g] = w at *
  refine loopP_intro (fun j : Nat => ⟨[(12, .i j), (11, .i w.need.length), (10, spans w.need), (3, .ptr 1 0 0)], [.var [sv key, .any, wais W], .var [spans (ofS (nd (W.take g) ++ w.need.take j))], .var [.any, .any, wais W], .rcd .busy [(3, .ptr 1 0 0)], .var w.enc, .rcd .ghost [(8, .i g), (7, .i W.length), (6, wais W), (0, .itr 3)]], 6⟩) (fun j => j ≤ w.need.length) (fun j => w.need.length - j) 0 (by omega) ?_ ?_
  ·simp -implicitDefEqProofs only [rX,↓reduceIte,Nat.reduceEqDiff,leE,leH,leB,leV,leVs,keepP,liveP,wfE,wfB,wfV,wfL,wt_wf,wt_le,yV,e1,e2,e3,e4,or_true]
  rintro j hj
  have hv := Vd.of (bd_app hb0 (bd_take (k := j) hbn))
  unfold c57l0
  rcases yI j w.need.length with hj' | hj'
  ·have hd : decide ((j : Int) < (w.need.length : Int)) = true := decide_eq_true (by omega)
   have hjj : (0 : Int) ≤ j ∧ (j : Int) < w.need.length := ⟨by omega, by omega⟩
   have hbs : Bs w.need[j] := hbn _ (yD hj')
   have hs : ofS (nd (W.take g) ++ w.need.take (j + 1)) = addS (ofS (nd (W.take g) ++ w.need.take j)) w.need[j] := by
    rw [vL hj', ← yZ]
    unfold ofS bothS
    rw [List.foldl_append]; rfl
   generalize ofS (nd (W.take g) ++ w.need.take j) = o at hv hs ⊢
   simp -implicitDefEqProofs only [rX,↓rY,ofConst,cells?,splice,↓reduceIte,Nat.reduceEqDiff,Nat.reduceAdd,freshP,enS_len,enS_take,enS_C,hd]
   refine ⟨hjj, hj', ?_⟩
   refine call_is (ok82 o w.need[j] (uN hv.len (by omega)) hv.1 (mid_add hv hbs)) (by simp [lendsOk, lendOk, lends, lend, wkL, wk, wkR, enS]) rfl (by simp [keepP, liveP]) ?_
   simp -implicitDefEqProofs only [rX,↓rY,ofConst,cells?,splice,↓reduceIte,Nat.reduceEqDiff,Nat.reduceAdd,reduceCtorEq,leE,leH,leB,leV,leVs,keepP,liveP,wfE,wfB,wfV,wfL,isC,wt_wf,wt_le,true_or]
   exact ⟨by simp only [lo, Fx.hi, maxLen] at *; omega, j + 1, ⟨by omega, by omega⟩, by simp, by rw [hs]⟩
  ·have hd : decide ((j : Int) < (w.need.length : Int)) = false := decide_eq_false (by omega)
   have hje : j = w.need.length := by omega
   subst hje
   rw [vF, ← hst]
   simp -implicitDefEqProofs only [rX,↓rY,↓reduceIte,Nat.reduceEqDiff,Nat.reduceAdd,hd]
   exact hZ [(8, .i g), (7, .i W.length), (6, wais W), (0, .itr 3)] (g + 1) [.var w.enc, .dead] ⟨rfl, rfl, rfl, rfl⟩ rfl
 ·rintro g rfl
  unfold hp57
  simp -implicitDefEqProofs only [rX,↓rY,↓reduceIte,Nat.reduceAdd,liveP,wfE,wfB,wfV,wfL,vF]
  exact ret_data (by simp [resP, get, Gv, gvV, wk, wkR, tupV, wfV])
end Go.Fx.J
namespace Go.Fx.J
open Go Go.Fx Go.Proofs Go.Fx.R
set_option maxRecDepth 20000
def nWait (l : List Mis) : Int := (l.map fun m => (m.wt.length : Int)).sum
theorem nWait_s {l : List Mis} {k : Nat} (h : k < l.length) : nWait (l.take (k + 1)) = nWait (l.take k) + l[k].wt.length := by
 unfold nWait
 rw [vL h, yX, List.sum_append]; simp
theorem nWait_b : ∀ {l : List Mis}, (∀ m ∈ l, m.wt.length ≤ 1000000) → 0 ≤ nWait l ∧ nWait l ≤ 1000000 * l.length
 | [], _ => by simp [nWait]
 | m :: l, h => by
  have ih := nWait_b (l := l) fun q hq => h q (by simp [hq])
  have hp := h m (by simp)
  have e : nWait (m :: l) = m.wt.length + nWait l := by simp [nWait]
  rw [e, List.length_cons]
  omega
theorem ok26 (j : Jns) (hl : j.l.length ≤ 1000000) (hw : ∀ m ∈ j.l, m.wt.length ≤ 1000000) : Ok 26 [.agg j.enc] (Is (.i (nWait j.l))) := by
 refine ok_of lw26 (by simp) ?_
 unfold c26
 simp -implicitDefEqProofs only [rX,↓rY,ofConst,cells?,↓reduceIte,Nat.reduceEqDiff,freshP,cxN,yA,args0]
 intro hm
 refine loopP_intro (fun k : Nat => ⟨[(9, .i k), (8, .i j.l.length), (7, miss j.l), (3, .i (nWait (j.l.take k)))], [], 1⟩) (fun k => k ≤ j.l.length) (fun k => j.l.length - k) 0 (by omega) ?_ ?_
 ·simp -implicitDefEqProofs only [rX,↓reduceIte,Nat.reduceEqDiff,leE,leH,keepP,wfE,wfB,wfV,yV]
  rfl
 rintro k hk
 have hb := nWait_b (l := j.l.take k) fun m hm => hw m (vM hm)
 rw [yL] at hb
 unfold c26l0
 rcases yI k j.l.length with hk' | hk'
 ·have hd : decide ((k : Int) < (j.l.length : Int)) = true := decide_eq_true (by omega)
  have hkk : (0 : Int) ≤ k ∧ (k : Int) < j.l.length := ⟨by omega, by omega⟩
  have hs := nWait_s hk'
  have hwk := hw _ (yD hk')
  simp -implicitDefEqProofs only [rX,↓rY,ofConst,cells?,splice,↓reduceIte,Nat.reduceEqDiff,Nat.reduceAdd,freshP,leE,leH,keepP,wfE,wfB,wfV,k_nil,ms_len,ms_t,ms_2,ms_C,yO,yA,hd]
  exact ⟨hkk, hk', fun _ => ⟨by simp only [lo, Fx.hi]; omega, by simp only [lo, Fx.hi]; omega, k + 1, ⟨by omega, by omega⟩, by simp, by rw [hs]⟩⟩
 ·have hd : decide ((k : Int) < (j.l.length : Int)) = false := decide_eq_false (by omega)
  rw [yK hk']
  simp -implicitDefEqProofs only [rX,↓rY,↓reduceIte,Nat.reduceEqDiff,resP,tupV,wfV,k_nil,hd]
end Go.Fx.J
namespace Go.Fx.J
open Go Go.Fx Go.Proofs Go.Fx.R
set_option maxRecDepth 20000
theorem eq_ft {f g : Fet} {K : Bool → Prop} : (optK (aggC (V.agg f.enc)) fun xs => optK (aggC (V.agg g.enc)) fun ys => eqFs xs ys [(0, TypeDesc.int IntKind.i64), (1, TypeDesc.int IntKind.i64), (2, TypeDesc.int IntKind.i64)] K) = K (decide (f = g)) := by
 have e : (f.id == g.id && (f.sp.1 == g.sp.1 && (f.sp.2 == g.sp.2 && true))) = decide (f = g) := by
  obtain ⟨a, b, c⟩ := f
  obtain ⟨d, e, h⟩ := g
  rw [vO]
  simp
 apply propext
 rw [← e]
 constructor
 ·intro h
  simp [aggC, optK, eqFs, eqC, Fet.enc, isKey, eqK] at h
  simpa using h
 ·intro h
  simp [aggC, optK, eqFs, eqC, Fet.enc, isKey, eqK]
  simpa using h
end Go.Fx.J
namespace Go.Fx.J
open Go Go.Fx Go.Proofs Go.Fx.R
set_option maxRecDepth 20000
def badW (l : List Wai) (k : Nat) (h : k < l.length) : Bool := (!vd l[k].need || decide (l[k].need.length = 0)) || (decide (0 < k) && decide (l[k].id ≤ (l[k - 1]'(by omega)).id))
def badF (last : Int) (l : List Fet) (k : Nat) (h : k < l.length) : Bool := ((!goodS l[k].sp || decide (l[k].id < 1)) || decide (last < l[k].id)) || (decide (0 < k) && decide (l[k].sp.1 < (l[k - 1]'(by omega)).sp.2))
def WtOk (l : List Wai) : Prop := ∀ k (h : k < l.length), badW l k h = false
def FlOk (last : Int) (l : List Fet) : Prop := ∀ k (h : k < l.length), badF last l k h = false
instance {l : List Wai} : Decidable (WtOk l) := inferInstanceAs (Decidable (∀ k (h : k < l.length), badW l k h = false))
instance {last : Int} {l : List Fet} : Decidable (FlOk last l) := inferInstanceAs (Decidable (∀ k (h : k < l.length), badF last l k h = false))
def front (m : Mis) : Bool := decide (m.key.length ≤ 4096) && decide (1 ≤ m.wt.length) && decide (m.wt.length ≤ 1000)
def missB (last : Int) (m : Mis) : Bool := front m && decide (WtOk m.wt) && decide (FlOk last m.fl) && (m.fl.all fun f => common (needed m) f.sp) && decide ((minusS (needed m) (flown m)).length = 0)
theorem WtOk.bd {l : List Wai} (h : WtOk l) : ∀ w ∈ l, Vd w.need ∧ w.need ≠ [] := by
 intro w hw
 obtain ⟨k, hk, rfl⟩ := yJ hw
 have := h k hk
 unfold badW at this
 simp only [vP, Bool.not_eq_false', decide_eq_false_iff_not] at this
 exact ⟨vd_iff.1 this.1.1, fun e => this.1.2 (by rw [e]; rfl)⟩
theorem FlOk.bs {last : Int} {l : List Fet} (h : FlOk last l) : ∀ f ∈ l, Bs f.sp ∧ f.sp.1 < f.sp.2 := by
 intro f hf
 obtain ⟨k, hk, rfl⟩ := yJ hf
 have := h k hk
 unfold badF goodS at this
 simp at this
 unfold Bs
 omega
end Go.Fx.J
namespace Go.Fx.J
open Go Go.Fx Go.Proofs Go.Fx.R
set_option maxRecDepth 20000
end Go.Fx.J
namespace Go.Fx.J
open Go Go.Fx Go.Proofs Go.Fx.R
set_option maxRecDepth 20000
theorem wfL_all' {h : List Blk} : ∀ {l : List V}, (∀ x ∈ l, wfV h x) → wfL h l
 | [], _ => trivial
 | x :: l, hx => ⟨hx x (by simp), wfL_all' fun y hy => hx y (by simp [hy])⟩
def frontJ (j : Jns) : Bool := decide (0 ≤ j.last) && decide (j.last ≤ 1152921504606846976) && decide (j.l.length ≤ 1000)
def badJ (j : Jns) (k : Nat) (h : k < j.l.length) : Bool := !missB j.last j.l[k] || (decide (0 < k) && (decide (j.l[k].key < (j.l[k - 1]'(by omega)).key) || j.l[k].key == (j.l[k - 1]'(by omega)).key))
def LsOk (j : Jns) : Prop := ∀ k (h : k < j.l.length), badJ j k h = false
instance {j : Jns} : Decidable (LsOk j) := inferInstanceAs (Decidable (∀ k (h : k < j.l.length), badJ j k h = false))
def validB (j : Jns) : Bool := frontJ j && decide (LsOk j) && decide (ids j.l).Nodup
end Go.Fx.J
namespace Go.Fx.J
open Go Go.Fx Go.Proofs Go.Fx.R
set_option maxRecDepth 20000
end Go.Fx.J
namespace Go.Fx.J
open Go Go.Fx Go.Proofs Go.Fx.R
set_option maxRecDepth 20000
theorem pw_adj {α : Type} {r : α → α → Prop} {l : List α} (ht : ∀ a ∈ l, ∀ b ∈ l, ∀ c ∈ l, r a b → r b c → r a c) : (∀ k (h : k < l.length), 0 < k → r (l[k - 1]'(by omega)) l[k]) ↔ l.Pairwise r := by
 constructor
 ·intro ha
  rw [vG]
  intro i j hi hj hij
  have key : ∀ d, ∀ (hd : i + 1 + d < l.length), r l[i] l[i + 1 + d] := by
   intro d
   induction d with
   | zero =>
    intro hd
    have := ha (i + 1) (by omega) (by omega)
    simpa using this
   | succ d ih =>
    intro hd
    have h1 := ih (by omega)
    have h2 := ha (i + 1 + (d + 1)) (by omega) (by omega)
    simp only [show i + 1 + (d + 1) - 1 = i + 1 + d by omega] at h2
    exact ht _ (yD _) _ (yD _) _ (yD _) h1 h2
  have := key (j - i - 1) (by omega)
  simpa [show i + 1 + (j - i - 1) = j by omega] using this
 ·intro hp k hk h0
  exact vG.1 hp (k - 1) k (by omega) hk (by omega)
theorem wtOk_iff {l : List Wai} : WtOk l ↔ (∀ w ∈ l, Vs w.need ∧ w.need ≠ []) ∧ l.Pairwise fun a b => a.id < b.id := by
 rw [← pw_adj (r := fun a b : Wai => a.id < b.id) fun a _ b _ c _ => Int.lt_trans]
 constructor
 ·intro h
  refine ⟨fun w hw => ⟨vs_vd.2 (h.bd w hw).1, (h.bd w hw).2⟩, fun k hk h0 => ?_⟩
  have := h k hk
  unfold badW at this
  simp [h0] at this
  omega
 ·rintro ⟨h1, h2⟩ k hk
  have a := h1 _ (yD hk)
  have hv : vd l[k].need = true := vd_iff.2 (vs_vd.1 a.1)
  have hn : ¬ l[k].need.length = 0 := fun e => a.2 (vA.1 e)
  unfold badW
  rw [hv, decide_eq_false hn]
  by_cases h0 : 0 < k
  ·have := h2 k hk h0
   simp [h0]; omega
  ·simp [h0]
theorem flOk_iff {last : Int} {l : List Fet} : FlOk last l ↔ (∀ f ∈ l, (0 ≤ f.sp.1 ∧ f.sp.1 < f.sp.2 ∧ f.sp.2 ≤ 1099511627776) ∧ 1 ≤ f.id ∧ f.id ≤ last) ∧ l.Pairwise fun a b => a.sp.2 ≤ b.sp.1 := by
 constructor
 ·intro h
  have h1 : ∀ f ∈ l, (0 ≤ f.sp.1 ∧ f.sp.1 < f.sp.2 ∧ f.sp.2 ≤ 1099511627776) ∧ 1 ≤ f.id ∧ f.id ≤ last := by
   intro f hf
   obtain ⟨k, hk, rfl⟩ := yJ hf
   have := h k hk
   unfold badF goodS at this
   simp at this
   omega
  refine ⟨h1, (pw_adj fun a ha b hb c hc h2 h3 => ?_).1 fun k hk h0 => ?_⟩
  ·have := h1 b hb; omega
  ·have := h k hk
   unfold badF at this
   simp [h0] at this
   omega
 ·rintro ⟨h1, h2⟩ k hk
  have a := h1 _ (yD hk)
  have hg : goodS l[k].sp = true := by unfold goodS; simp; omega
  unfold badF
  rw [hg]
  by_cases h0 : 0 < k
  ·have := vG.1 h2 (k - 1) k (by omega) hk (by omega)
   simp [h0]; omega
  ·simp [h0]; omega
theorem missB_iff {last : Int} {m : Mis} : missB last m = true ↔ MOk last m := by
 unfold missB front
 simp only [Bool.and_eq_true, decide_eq_true_eq, wtOk_iff, flOk_iff, vH]
 constructor
 ·rintro ⟨⟨⟨⟨⟨⟨h1, h2⟩, h3⟩, h4, h5⟩, h6, h7⟩, h8⟩, h9⟩
  exact ⟨⟨h1, h3, h4, h5, h6, h7, fun f hf => (common_iff sep_need).1 (h8 f hf), (minus_zero sep_need).1 h9⟩, h2⟩
 ·intro h
  exact ⟨⟨⟨⟨⟨⟨h.k, h.n1⟩, h.n⟩, h.w, h.wo⟩, h.f, h.fo⟩, fun f hf => (common_iff sep_need).2 (h.c f hf)⟩, (minus_zero sep_need).2 h.d⟩
theorem valid_iff {j : Jns} : validB j = true ↔ JOk j := by
 unfold validB frontJ
 simp only [Bool.and_eq_true, decide_eq_true_eq]
 have key : LsOk j ↔ (∀ m ∈ j.l, MOk j.last m) ∧ j.l.Pairwise fun a b => a.key < b.key := by
  rw [← pw_adj (r := fun a b : Mis => a.key < b.key) fun a _ b _ c _ => s_trans]
  constructor
  ·intro h
   refine ⟨fun m hm => ?_, fun k hk h0 => ?_⟩
   ·obtain ⟨k, hk, rfl⟩ := yJ hm
    have := h k hk
    unfold badJ at this
    rw [vP] at this
    exact missB_iff.1 (by simpa using this.1)
   ·have := h k hk
    unfold badJ at this
    rw [vP] at this
    have h2 := this.2
    simp only [h0, decide_true, yA, vP, decide_eq_false_iff_not, beq_eq_false_iff_ne] at h2
    apply Classical.byContradiction
    intro hn
    exact h2.2 (s_tri h2.1 hn)
  ·rintro ⟨h1, h2⟩ k hk
   unfold badJ
   rw [missB_iff.2 (h1 _ (yD hk))]
   by_cases h0 : 0 < k
   ·have h3 := h2 k hk h0
    have h4 : ¬ j.l[k].key < (j.l[k - 1]'(by omega)).key := fun h => s_irr _ (s_trans h h3)
    have h5 : (j.l[k].key == (j.l[k - 1]'(by omega)).key) = false := by
     rw [beq_eq_false_iff_ne]
     intro e
     rw [e] at h3
     exact s_irr _ h3
    simp [h4, h5]
   ·simp [h0]
 rw [key]
 constructor
 ·rintro ⟨⟨⟨⟨h1, h2⟩, h3⟩, h4, h5⟩, h6⟩
  exact ⟨⟨h1, h2⟩, h3, h4, h5, h6⟩
 ·intro h
  exact ⟨⟨⟨h.lo, h.n⟩, h.m, h.o⟩, h.u⟩
end Go.Fx.J
namespace Go.Fx.J
open Go Go.Fx Go.Proofs Go.Fx.R
set_option maxRecDepth 20000
def cmpI (a b : Int) : Int := if a < b then -1 else if b < a then 1 else 0
theorem ok113 (n : Int) : Ok 113 [.i n] (Is (.b false)) := by
 refine ok_of lw113 (by simp) ?_
 unfold c113
 simp -implicitDefEqProofs only [rX,↓rY,ofConst,↓reduceIte,Nat.reduceEqDiff,reduceCtorEq,resP,tupV,wfV,cxN,args0]
 simp
theorem ok87 (a b : Int) : Ok 87 [.i a, .i b] (Is (.i (cmpI a b))) := by
 refine ok_of lw87 (by simp) ?_
 unfold c87 cmpI
 simp -implicitDefEqProofs only [rX,ofConst,↓reduceIte,reduceCtorEq,cxN,args0]
 refine call_is (ok113 a) ⟨⟨trivial, trivial⟩, rfl, trivial⟩ rfl trivial ?_
 simp -implicitDefEqProofs only [rX,↓reduceIte,Nat.reduceEqDiff,reduceCtorEq]
 refine call_is (ok113 b) ⟨⟨trivial, trivial⟩, rfl, trivial⟩ rfl trivial ?_
 simp -implicitDefEqProofs only [rX,↓rY,ofConst,↓reduceIte,Nat.reduceEqDiff,reduceCtorEq,resP,tupV,wfV]
 simp only [br, decide_eq_true_eq, decide_eq_false_iff_not]
 refine ⟨fun h1 => ?_, fun h1 => ⟨fun h2 => ?_, fun h2 => ?_⟩⟩
 ·rw [if_pos h1]
 ·rw [if_neg h1, if_pos h2]
 ·rw [if_neg h1, if_neg h2]
def cmpS (a b : S) : Int := if a < b then -1 else if b < a then 1 else 0
theorem ok115 (a : S) : Ok 115 [sv a] (Is (.b false)) := by
 refine ok_of lw115 (by simp) ?_
 unfold c115
 simp -implicitDefEqProofs only [rX,↓rY,ofConst,↓reduceIte,Nat.reduceEqDiff,reduceCtorEq,resP,tupV,wfV,cxN,sb_list,args0]
 simp
theorem ok99 (a b : S) : Ok 99 [sv a, sv b] (Is (.i (cmpS a b))) := by
 refine ok_of lw99 (by simp) ?_
 unfold c99 cmpS
 simp -implicitDefEqProofs only [rX,ofConst,↓reduceIte,reduceCtorEq,cxN,args0]
 refine call_is (ok115 a) ⟨⟨trivial, trivial⟩, rfl, trivial⟩ rfl trivial ?_
 simp -implicitDefEqProofs only [rX,↓reduceIte,Nat.reduceEqDiff,reduceCtorEq]
 refine call_is (ok115 b) ⟨⟨trivial, trivial⟩, rfl, trivial⟩ rfl trivial ?_
 simp -implicitDefEqProofs only [rX,↓rY,ofConst,↓reduceIte,Nat.reduceEqDiff,reduceCtorEq,resP,tupV,wfV,sb_list,less]
 refine ⟨fun h1 => ?_, fun h1 => ⟨fun h2 => ?_, fun h2 => ?_⟩⟩
 ·rw [if_pos (by simpa using h1)]
 ·have h1' : ¬ a < b := by simpa using h1
  have h2' : b < a := by
   rw [Bool.not_eq_true', vP] at h2
   apply Classical.byContradiction
   intro hn
   have := s_tri h1' hn
   subst this
   simp at h2
  rw [if_neg h1', if_pos h2']
 ·have h1' : ¬ a < b := by simpa using h1
  have h2' : ¬ b < a := by
   rw [Bool.not_eq_false', Bool.or_eq_true] at h2
   intro hb
   rcases h2 with h2 | h2
   ·exact h1' (by simpa using h2)
   ·have : a = b := by simpa using h2
    subst this; exact s_irr _ hb
  rw [if_neg h1', if_neg h2']
theorem sh_r {k : IntKind} {a c : Int} {K : V → Prop} : shiftInt .shr k a c K = (0 ≤ c ∧ K (.v (.int k (a.fdiv (2 ^ (min c.toNat k.bits)))))) := rfl
theorem pos_eq {α : Type} {lt eq : α → Bool} {l : List α} {k : Nat} (hk : k ≤ l.length) (h1 : ∀ j (h : j < l.length), j < k → lt l[j] = true) (h2 : ∀ j (h : j < l.length), k ≤ j → lt l[j] = false)
  (h3 : ∀ j (h : j < l.length), j < k → eq l[j] = false) (h4 : ∀ j (h : j < l.length), k < j → eq l[j] = false) : posN lt l = k ∧ l.any eq = (if h : k < l.length then eq l[k] else false) := by
 refine ⟨posN_eq hk h1 h2, ?_⟩
 rw [vO, vZ]
 constructor
 ·rintro ⟨m, hm, he⟩
  obtain ⟨j, hj, rfl⟩ := yJ hm
  rcases Nat.lt_trichotomy j k with c | c | c
  ·rw [h3 j hj c] at he; cases he
  ·subst c; rw [dif_pos hj]; exact he
  ·rw [h4 j hj c] at he; cases he
 ·intro h
  split at h
  ·exact ⟨_, yD _, h⟩
  ·cases h
theorem ok73 (m : Mis) : Ok 73 [.agg m.enc] (Is (sv m.key)) := by
 refine ok_of lw73 (by simp) ?_
 unfold c73
 simp -implicitDefEqProofs only [rX,↓rY,ofConst,cells?,↓reduceIte,Nat.reduceEqDiff,freshP,resP,tupV,wfV,cxN,k_nil,ms_0,yA,args0]
theorem ok98 (m : Mis) (k : S) : OkN Tryz.prog 98 [.agg m.enc, sv k, .ptr 0 0 0] [.var [.clo 73 []]] [] (IsA (.i (cmpS m.key k)) [.var [.clo 73 []]]) := by
 refine okN_of pol [0] lw98 (by simp) ⟨trivial, trivial⟩ (by simp) ?_
 unfold c98
 simp -implicitDefEqProofs only [rX,↓rY,ofConst,cells?,↓reduceIte,Nat.reduceEqDiff,Nat.reduceAdd,reduceCtorEq,freshP,cxN,ms_len,ms_t,yA,args0]
 refine call_is (ok73 m) (by simp [lendsOk, lendOk, lends, lend, wkL, wk, wkR, Mis.enc]) rfl ⟨trivial, trivial⟩ ?_
 simp -implicitDefEqProofs only [rX,↓reduceIte,Nat.reduceEqDiff,reduceCtorEq]
 refine call_is (ok99 m.key k) (by simp [lendsOk, lendOk, lends, lend, wkL, wk]) rfl ⟨trivial, trivial⟩ ?_
 simp -implicitDefEqProofs only [rX,↓reduceIte,resP,tupV,leH,leB,leV,leVs,keepP,liveP,wfB,wfV,wfL,retP_isA]
def ltM (k : S) (m : Mis) : Bool := decide (m.key < k)
def eqM (k : S) (m : Mis) : Bool := decide (m.key = k)
theorem ok97 (l : List Mis) (k : S) (ho : l.Pairwise fun a b => a.key < b.key) (hl : l.length ≤ 1000000) : OkN Tryz.prog 97 [.bro 3 (l.map Mis.enc), sv k, .clo 98 [.ptr 0 0 0]] [.var [.clo 73 []]] [] (IsA (.tup [.i (posN (ltM k) l), .b (l.any (eqM k))]) [.var [.clo 73 []]]) := by
 refine okN_of pol [0] lw97 (by simp) ⟨trivial, trivial⟩ (by simp) ?_
 unfold c97
 simp -implicitDefEqProofs only [rX,↓rY,ofConst,↓reduceIte,Nat.reduceEqDiff,Nat.reduceAdd,reduceCtorEq,cxN,args0]
 intro hmx
 have hp := vG.1 ho
 have hi : ∀ a : S, ¬ a < a := s_irr
 have ht : ∀ a b c : S, a < b → b < c → a < c := fun a b c => s_trans
 have htri : ∀ a b : S, ¬ a < b → ¬ b < a → a = b := fun a b => s_tri
 refine loopP_intro (fun g : Nat × Nat => ⟨[(10, .i g.2), (9, .i g.1), (8, .i l.length), (2, .clo 98 [.ptr 0 0 0]), (1, sv k), (0, .bro 3 (l.map Mis.enc))], [.var [.clo 73 []]], 1⟩) (fun g => (g.1 ≤ g.2 ∧ g.2 ≤ l.length) ∧ (∀ j (h : j < l.length), j < g.1 → l[j].key < k) ∧ (∀ j (h : j < l.length), g.2 ≤ j → ¬ l[j].key < k)) (fun g => g.2 - g.1) (0, l.length) ⟨⟨by simp, by simp⟩, fun j _ h => by simp at h, fun j h h2 => by simp at h2; omega⟩ ?_ ?_
 ·simp -implicitDefEqProofs only [rX,↓reduceIte,Nat.reduceEqDiff,reduceCtorEq,leE,leH,leB,leV,leVs,keepP,liveP,wfE,wfB,wfV,wfL,yV]
 rintro ⟨i, j⟩ ⟨⟨hij, hj⟩, h1, h2⟩
 simp only at hij hj h1 h2
 unfold c97l0
 rcases yI i j with c | c
 ·have hd : decide ((i : Int) < (j : Int)) = true := decide_eq_true (by omega)
  have hw : IntKind.wrap .u64 ((i : Int) + (j : Int)) = ((i + j : Nat) : Int) := by rw [wrap_in .u64 _ (by simp only [lo, Fx.hi]; omega)]; omega
  have hdv : ((i + j : Nat) : Int).fdiv (2 ^ (min (uA 1) IntKind.u64.bits)) = (((i + j) / 2 : Nat) : Int) := by
   rw [show min (uA 1) IntKind.u64.bits = 1 from rfl]
   rw [uV _ (by decide)]
   omega
  have hw2 : IntKind.wrap .i64 (((i + j) / 2 : Nat) : Int) = (((i + j) / 2 : Nat) : Int) := wrap_in .i64 _ (by simp only [lo, Fx.hi]; omega)
  have hk : (i + j) / 2 < l.length := by omega
  simp -implicitDefEqProofs only [rX,↓rY,ofConst,↓reduceIte,Nat.reduceEqDiff,reduceCtorEq,ms_len,ms_t,hd,hw,hdv,hw2,↓sh_r]
  refine ⟨by simp only [lo, Fx.hi]; omega, by omega, ⟨by omega, by omega⟩, hk, ?_⟩
  refine call_isN [0] [.agg l[(i + j) / 2].enc, sv k, .ptr 0 0 0] (.i (cmpS l[(i + j) / 2].key k)) (.i (cmpS l[(i + j) / 2].key k)) [.var [.clo 73 []]] [.var [.clo 73 []]] _ (ok98 l[(i + j) / 2] k) (by simp) rfl (by simp [lendsOk, lendOk, lends, lend, wkL, wk, wkR, pos, Mis.enc]) (by simp) rfl rfl ⟨trivial, trivial⟩ ?_
  by_cases h3 : l[(i + j) / 2].key < k
  ·have h4 : decide (cmpS l[(i + j) / 2].key k < 0) = true := by unfold cmpS; rw [if_pos h3]; rfl
   simp -implicitDefEqProofs only [rX,↓rY,ofConst,↓reduceIte,Nat.reduceEqDiff,reduceCtorEq,leE,leH,leB,leV,leVs,keepP,liveP,wfE,wfB,wfV,wfL,h4,setAll,renB,rens,ren]
   refine ⟨by simp only [lo, Fx.hi]; omega, ((i + j) / 2 + 1, j), ⟨⟨⟨by simp only; omega, hj⟩, fun q hk2 hlt => ?_, h2⟩, by simp only; omega⟩, by simp⟩
   simp only at hlt
   by_cases e : q = (i + j) / 2
   ·subst e; exact h3
   ·exact ht _ _ _ (hp q ((i + j) / 2) hk2 hk (by omega)) h3
  ·have h4 : decide (cmpS l[(i + j) / 2].key k < 0) = false := by unfold cmpS; rw [if_neg h3]; split <;> rfl
   simp -implicitDefEqProofs only [rX,↓rY,ofConst,↓reduceIte,Nat.reduceEqDiff,reduceCtorEq,leE,leH,leB,leV,leVs,keepP,liveP,wfE,wfB,wfV,wfL,h4,setAll,renB,rens,ren]
   refine ⟨(i, (i + j) / 2), ⟨⟨⟨by simp only; omega, by simp only; omega⟩, h1, fun q hk2 hlt hlk => ?_⟩, by simp only; omega⟩, by simp⟩
   simp only at hlt
   by_cases e : q = (i + j) / 2
   ·subst e; exact h3 hlk
   ·exact h3 (ht _ _ _ (hp ((i + j) / 2) q hk hk2 (by omega)) hlk)
 ·have hd : decide ((i : Int) < (j : Int)) = false := decide_eq_false (by omega)
  have he : i = j := by omega
  subst he
  obtain ⟨hpos, his⟩ := pos_eq (lt := ltM k) (eq := eqM k) hj (fun q hq hlt => decide_eq_true (h1 q hq hlt)) (fun q hq hge => decide_eq_false (h2 q hq hge)) (fun q hq hlt => decide_eq_false fun e => hi k (by have := h1 q hq hlt; rwa [e] at this)) (fun q hq hlt => decide_eq_false fun e => h2 i (by omega) (yE _) (by have := hp i q (by omega) hq hlt; rwa [e] at this))
  rcases yI i l.length with c2 | c2
  ·have hd2 : decide ((i : Int) < (l.length : Int)) = true := decide_eq_true (by omega)
   simp -implicitDefEqProofs only [rX,↓rY,↓reduceIte,Nat.reduceEqDiff,reduceCtorEq,ms_len,ms_t,hd,hd2]
   refine ⟨⟨by omega, by omega⟩, c2, ?_⟩
   refine call_isN [0] [.agg l[i].enc, sv k, .ptr 0 0 0] (.i (cmpS l[i].key k)) (.i (cmpS l[i].key k)) [.var [.clo 73 []]] [.var [.clo 73 []]] _ (ok98 l[i] k) (by simp) rfl (by simp [lendsOk, lendOk, lends, lend, wkL, wk, wkR, pos, Mis.enc]) (by simp) rfl rfl ⟨trivial, trivial⟩ ?_
   have h4 : (cmpS l[i].key k == 0) = l.any (eqM k) := by
    rw [his, dif_pos c2]
    have h5 := h2 i c2 (yE _)
    unfold cmpS eqM
    rw [if_neg h5, vO]
    split
    ·rename_i h6
     have : ¬ l[i].key = k := fun e => hi k (by rwa [e] at h6)
     simp [this]
    ·rename_i h6
     simp [htri _ _ h5 h6]
   simp -implicitDefEqProofs only [rX,↓rY,ofConst,↓reduceIte,Nat.reduceEqDiff,resP,tupV,leH,leB,leV,leVs,keepP,liveP,wfB,wfV,wfL,h4,hpos,setAll,renB,rens,ren,retP_isA]
  ·have hd2 : decide ((i : Int) < (l.length : Int)) = false := decide_eq_false (by omega)
   rw [dif_neg (by omega)] at his
   simp -implicitDefEqProofs only [rX,↓rY,ofConst,↓reduceIte,Nat.reduceEqDiff,resP,tupV,leH,leB,leV,leVs,keepP,liveP,wfB,wfV,wfL,hd,hd2,hpos,his,retP_isA]
theorem ok72 (l : List Mis) (k : S) (ho : l.Pairwise fun a b => a.key < b.key) (hl : l.length ≤ 1000000) : Ok 72 [.bro 3 (l.map Mis.enc), sv k, .clo 73 []] (Is (.tup [.i (posN (ltM k) l), .b (l.any (eqM k))])) := by
 refine ok_of lw72 (by simp) ?_
 unfold c72
 simp -implicitDefEqProofs only [rX,↓rY,ofConst,cells?,↓reduceIte,Nat.reduceEqDiff,Nat.reduceAdd,reduceCtorEq,freshP,cxN,args0]
 refine call_isN [0] [.bro 3 (l.map Mis.enc), sv k, .clo 98 [.ptr 0 0 0]] (.tup [.i (posN (ltM k) l), .b (l.any (eqM k))]) (.tup [.i (posN (ltM k) l), .b (l.any (eqM k))]) [.var [.clo 73 []]] [.var [.clo 73 []]] _ (ok97 l k ho hl) (by simp) rfl (by simp [lendsOk, lendOk, lends, lend, wkL, wk, wkB, pos]) (by simp) rfl rfl trivial ?_
 simp -implicitDefEqProofs only [rX,↓rY,↓reduceIte,Nat.reduceEqDiff,resP,tupV,wfV,wfL,setAll,renB,rens,ren]
theorem ok38 (A : V) (l : List Mis) (k : S) (ho : l.Pairwise fun a b => a.key < b.key) (hl : l.length ≤ 1000000) : Ok 38 [.agg [A, .bro 3 (l.map Mis.enc)], sv k] (Is (.tup [.i (posN (ltM k) l), .b (l.any (eqM k))])) := by
 refine ok_of lw38 (by simp) ?_
 unfold c38
 simp -implicitDefEqProofs only [rX,↓rY,ofConst,cells?,↓reduceIte,Nat.reduceEqDiff,reduceCtorEq,freshP,cxN,yA,args0]
 refine call_is (ok72 l k ho hl) (by simp [lendsOk, lendOk, lends, lend, wkL, wk, wkB]) rfl trivial ?_
 simp -implicitDefEqProofs only [rX,↓rY,↓reduceIte,Nat.reduceEqDiff,resP,tupV,wfV,wfL]
theorem ok79 (m : Wai) : Ok 79 [.agg m.enc] (Is (.i m.id)) := by
 refine ok_of lw79 (by simp) ?_
 unfold c79
 simp -implicitDefEqProofs only [rX,↓rY,ofConst,cells?,↓reduceIte,Nat.reduceEqDiff,freshP,resP,tupV,wfV,cxN,wt_0,yA,args0]
theorem ok102 (m : Wai) (k : Int) : OkN Tryz.prog 102 [.agg m.enc, .i k, .ptr 0 0 0] [.var [.clo 79 []]] [] (IsA (.i (cmpI m.id k)) [.var [.clo 79 []]]) := by
 refine okN_of pol [0] lw102 (by simp) ⟨trivial, trivial⟩ (by simp) ?_
 unfold c102
 simp -implicitDefEqProofs only [rX,↓rY,ofConst,cells?,↓reduceIte,Nat.reduceEqDiff,Nat.reduceAdd,reduceCtorEq,freshP,cxN,wt_len,wt_t,yA,args0]
 refine call_is (ok79 m) (by simp [lendsOk, lendOk, lends, lend, wkL, wk, wkR, Wai.enc]) rfl ⟨trivial, trivial⟩ ?_
 simp -implicitDefEqProofs only [rX,↓reduceIte,Nat.reduceEqDiff,reduceCtorEq]
 refine call_is (ok87 m.id k) (by simp [lendsOk, lendOk, lends, lend, wkL, wk]) rfl ⟨trivial, trivial⟩ ?_
 simp -implicitDefEqProofs only [rX,↓reduceIte,resP,tupV,leH,leB,leV,leVs,keepP,liveP,wfB,wfV,wfL,retP_isA]
def ltW (k : Int) (m : Wai) : Bool := decide (m.id < k)
def eqW (k : Int) (m : Wai) : Bool := decide (m.id = k)
theorem ok101 (l : List Wai) (k : Int) (ho : l.Pairwise fun a b => a.id < b.id) (hl : l.length ≤ 1000000) : OkN Tryz.prog 101 [.bro 2 (l.map Wai.enc), .i k, .clo 102 [.ptr 0 0 0]] [.var [.clo 79 []]] [] (IsA (.tup [.i (posN (ltW k) l), .b (l.any (eqW k))]) [.var [.clo 79 []]]) := by
 refine okN_of pol [0] lw101 (by simp) ⟨trivial, trivial⟩ (by simp) ?_
 unfold c101
 simp -implicitDefEqProofs only [rX,↓rY,ofConst,↓reduceIte,Nat.reduceEqDiff,Nat.reduceAdd,reduceCtorEq,cxN,args0]
 intro hmx
 have hp := vG.1 ho
 have hi : ∀ a : Int, ¬ a < a := fun a => Int.lt_irrefl a
 have ht : ∀ a b c : Int, a < b → b < c → a < c := fun a b c => Int.lt_trans
 have htri : ∀ a b : Int, ¬ a < b → ¬ b < a → a = b := fun a b h1 h2 => by omega
 refine loopP_intro (fun g : Nat × Nat => ⟨[(10, .i g.2), (9, .i g.1), (8, .i l.length), (2, .clo 102 [.ptr 0 0 0]), (1, .i k), (0, .bro 2 (l.map Wai.enc))], [.var [.clo 79 []]], 1⟩) (fun g => (g.1 ≤ g.2 ∧ g.2 ≤ l.length) ∧ (∀ j (h : j < l.length), j < g.1 → l[j].id < k) ∧ (∀ j (h : j < l.length), g.2 ≤ j → ¬ l[j].id < k)) (fun g => g.2 - g.1) (0, l.length) ⟨⟨by simp, by simp⟩, fun j _ h => by simp at h, fun j h h2 => by simp at h2; omega⟩ ?_ ?_
 ·simp -implicitDefEqProofs only [rX,↓reduceIte,Nat.reduceEqDiff,reduceCtorEq,leE,leH,leB,leV,leVs,keepP,liveP,wfE,wfB,wfV,wfL,yV]
 rintro ⟨i, j⟩ ⟨⟨hij, hj⟩, h1, h2⟩
 simp only at hij hj h1 h2
 unfold c101l0
 rcases yI i j with c | c
 ·have hd : decide ((i : Int) < (j : Int)) = true := decide_eq_true (by omega)
  have hw : IntKind.wrap .u64 ((i : Int) + (j : Int)) = ((i + j : Nat) : Int) := by rw [wrap_in .u64 _ (by simp only [lo, Fx.hi]; omega)]; omega
  have hdv : ((i + j : Nat) : Int).fdiv (2 ^ (min (uA 1) IntKind.u64.bits)) = (((i + j) / 2 : Nat) : Int) := by
   rw [show min (uA 1) IntKind.u64.bits = 1 from rfl]
   rw [uV _ (by decide)]
   omega
  have hw2 : IntKind.wrap .i64 (((i + j) / 2 : Nat) : Int) = (((i + j) / 2 : Nat) : Int) := wrap_in .i64 _ (by simp only [lo, Fx.hi]; omega)
  have hk : (i + j) / 2 < l.length := by omega
  simp -implicitDefEqProofs only [rX,↓rY,ofConst,↓reduceIte,Nat.reduceEqDiff,reduceCtorEq,wt_len,wt_t,hd,hw,hdv,hw2,↓sh_r]
  refine ⟨by simp only [lo, Fx.hi]; omega, by omega, ⟨by omega, by omega⟩, hk, ?_⟩
  refine call_isN [0] [.agg l[(i + j) / 2].enc, .i k, .ptr 0 0 0] (.i (cmpI l[(i + j) / 2].id k)) (.i (cmpI l[(i + j) / 2].id k)) [.var [.clo 79 []]] [.var [.clo 79 []]] _ (ok102 l[(i + j) / 2] k) (by simp) rfl (by simp [lendsOk, lendOk, lends, lend, wkL, wk, wkR, pos, Wai.enc]) (by simp) rfl rfl ⟨trivial, trivial⟩ ?_
  by_cases h3 : l[(i + j) / 2].id < k
  ·have h4 : decide (cmpI l[(i + j) / 2].id k < 0) = true := by unfold cmpI; rw [if_pos h3]; rfl
   simp -implicitDefEqProofs only [rX,↓rY,ofConst,↓reduceIte,Nat.reduceEqDiff,reduceCtorEq,leE,leH,leB,leV,leVs,keepP,liveP,wfE,wfB,wfV,wfL,h4,setAll,renB,rens,ren]
   refine ⟨by simp only [lo, Fx.hi]; omega, ((i + j) / 2 + 1, j), ⟨⟨⟨by simp only; omega, hj⟩, fun q hk2 hlt => ?_, h2⟩, by simp only; omega⟩, by simp⟩
   simp only at hlt
   by_cases e : q = (i + j) / 2
   ·subst e; exact h3
   ·exact ht _ _ _ (hp q ((i + j) / 2) hk2 hk (by omega)) h3
  ·have h4 : decide (cmpI l[(i + j) / 2].id k < 0) = false := by unfold cmpI; rw [if_neg h3]; split <;> rfl
   simp -implicitDefEqProofs only [rX,↓rY,ofConst,↓reduceIte,Nat.reduceEqDiff,reduceCtorEq,leE,leH,leB,leV,leVs,keepP,liveP,wfE,wfB,wfV,wfL,h4,setAll,renB,rens,ren]
   refine ⟨(i, (i + j) / 2), ⟨⟨⟨by simp only; omega, by simp only; omega⟩, h1, fun q hk2 hlt hlk => ?_⟩, by simp only; omega⟩, by simp⟩
   simp only at hlt
   by_cases e : q = (i + j) / 2
   ·subst e; exact h3 hlk
   ·exact h3 (ht _ _ _ (hp ((i + j) / 2) q hk hk2 (by omega)) hlk)
 ·have hd : decide ((i : Int) < (j : Int)) = false := decide_eq_false (by omega)
  have he : i = j := by omega
  subst he
  obtain ⟨hpos, his⟩ := pos_eq (lt := ltW k) (eq := eqW k) hj (fun q hq hlt => decide_eq_true (h1 q hq hlt)) (fun q hq hge => decide_eq_false (h2 q hq hge)) (fun q hq hlt => decide_eq_false fun e => hi k (by have := h1 q hq hlt; rwa [e] at this)) (fun q hq hlt => decide_eq_false fun e => h2 i (by omega) (yE _) (by have := hp i q (by omega) hq hlt; rwa [e] at this))
  rcases yI i l.length with c2 | c2
  ·have hd2 : decide ((i : Int) < (l.length : Int)) = true := decide_eq_true (by omega)
   simp -implicitDefEqProofs only [rX,↓rY,↓reduceIte,Nat.reduceEqDiff,reduceCtorEq,wt_len,wt_t,hd,hd2]
   refine ⟨⟨by omega, by omega⟩, c2, ?_⟩
   refine call_isN [0] [.agg l[i].enc, .i k, .ptr 0 0 0] (.i (cmpI l[i].id k)) (.i (cmpI l[i].id k)) [.var [.clo 79 []]] [.var [.clo 79 []]] _ (ok102 l[i] k) (by simp) rfl (by simp [lendsOk, lendOk, lends, lend, wkL, wk, wkR, pos, Wai.enc]) (by simp) rfl rfl ⟨trivial, trivial⟩ ?_
   have h4 : (cmpI l[i].id k == 0) = l.any (eqW k) := by
    rw [his, dif_pos c2]
    have h5 := h2 i c2 (yE _)
    unfold cmpI eqW
    rw [if_neg h5, vO]
    split
    ·rename_i h6
     have : ¬ l[i].id = k := fun e => hi k (by rwa [e] at h6)
     simp [this]
    ·rename_i h6
     simp [htri _ _ h5 h6]
   simp -implicitDefEqProofs only [rX,↓rY,ofConst,↓reduceIte,Nat.reduceEqDiff,resP,tupV,leH,leB,leV,leVs,keepP,liveP,wfB,wfV,wfL,h4,hpos,setAll,renB,rens,ren,retP_isA]
  ·have hd2 : decide ((i : Int) < (l.length : Int)) = false := decide_eq_false (by omega)
   rw [dif_neg (by omega)] at his
   simp -implicitDefEqProofs only [rX,↓rY,ofConst,↓reduceIte,Nat.reduceEqDiff,resP,tupV,leH,leB,leV,leVs,keepP,liveP,wfB,wfV,wfL,hd,hd2,hpos,his,retP_isA]
theorem ok78 (l : List Wai) (k : Int) (ho : l.Pairwise fun a b => a.id < b.id) (hl : l.length ≤ 1000000) : Ok 78 [.bro 2 (l.map Wai.enc), .i k, .clo 79 []] (Is (.tup [.i (posN (ltW k) l), .b (l.any (eqW k))])) := by
 refine ok_of lw78 (by simp) ?_
 unfold c78
 simp -implicitDefEqProofs only [rX,↓rY,ofConst,cells?,↓reduceIte,Nat.reduceEqDiff,Nat.reduceAdd,reduceCtorEq,freshP,cxN,args0]
 refine call_isN [0] [.bro 2 (l.map Wai.enc), .i k, .clo 102 [.ptr 0 0 0]] (.tup [.i (posN (ltW k) l), .b (l.any (eqW k))]) (.tup [.i (posN (ltW k) l), .b (l.any (eqW k))]) [.var [.clo 79 []]] [.var [.clo 79 []]] _ (ok101 l k ho hl) (by simp) rfl (by simp [lendsOk, lendOk, lends, lend, wkL, wk, wkB, pos]) (by simp) rfl rfl trivial ?_
 simp -implicitDefEqProofs only [rX,↓rY,↓reduceIte,Nat.reduceEqDiff,resP,tupV,wfV,wfL,setAll,renB,rens,ren]
theorem ok42 (A B : V) (l : List Wai) (k : Int) (ho : l.Pairwise fun a b => a.id < b.id) (hl : l.length ≤ 1000000) : Ok 42 [.agg [A, B, .bro 2 (l.map Wai.enc)], .i k] (Is (.tup [.i (posN (ltW k) l), .b (l.any (eqW k))])) := by
 refine ok_of lw42 (by simp) ?_
 unfold c42
 simp -implicitDefEqProofs only [rX,↓rY,ofConst,cells?,↓reduceIte,Nat.reduceEqDiff,reduceCtorEq,freshP,cxN,yA,args0]
 refine call_is (ok78 l k ho hl) (by simp [lendsOk, lendOk, lends, lend, wkL, wk, wkB]) rfl trivial ?_
 simp -implicitDefEqProofs only [rX,↓rY,↓reduceIte,Nat.reduceEqDiff,resP,tupV,wfV,wfL]
end Go.Fx.J
namespace Go.Fx.J
open Go Go.Fx Go.Proofs Go.Fx.R
set_option maxRecDepth 20000
def eqF (id : Int) (f : Fet) : Bool := decide (f.id = id)
def fstI {α : Type} (p : α → Bool) (l : List α) : Int := if l.any p = true then (l.findIdx p : Nat) else -1
theorem fst_yes {α : Type} {p : α → Bool} {l : List α} {k : Nat} (hk : k < l.length) (h : p l[k] = true) (hno : ∀ j (hj : j < l.length), j < k → p l[j] = false) : fstI p l = k := by
 unfold fstI
 rw [if_pos (vZ.2 ⟨_, yD hk, h⟩)]
 congr 1
 rw [List.findIdx_eq hk]
 exact ⟨h, fun j hj => hno j (by omega) hj⟩
theorem fst_no {α : Type} {p : α → Bool} {l : List α} (hno : ∀ j (hj : j < l.length), p l[j] = false) : fstI p l = -1 := by
 unfold fstI
 rw [if_neg]
 intro h
 obtain ⟨m, hm, he⟩ := vZ.1 h
 obtain ⟨i, hi, rfl⟩ := yJ hm
 rw [hno i hi] at he; cases he
theorem ok93 (f : Fet) (id : Int) : OkN Tryz.prog 93 [.agg f.enc, .ptr 0 0 0] [.var [.i id]] [] (IsA (.b (eqF id f)) [.var [.i id]]) := by
 refine okN_of pol [0] lw93 (by simp) ⟨trivial, trivial⟩ (by simp) ?_
 unfold c93 eqF
 have e : (f.id == id) = decide (f.id = id) := by rw [vO]; simp
 simp -implicitDefEqProofs only [rX,↓rY,ofConst,cells?,↓reduceIte,Nat.reduceEqDiff,Nat.reduceAdd,reduceCtorEq,freshP,resP,tupV,leH,leB,leV,leVs,keepP,liveP,wfB,wfV,wfL,cxN,ft_0,yA,args0,retP_isA,e]
theorem ok92 (l : List Fet) (id : Int) : OkN Tryz.prog 92 [.bro 3 (l.map Fet.enc), .clo 93 [.ptr 0 0 0]] [.var [.i id]] [] (IsA (.i (fstI (eqF id) l)) [.var [.i id]]) := by
 refine okN_of pol [0] lw92 (by simp) ⟨trivial, trivial⟩ (by simp) ?_
 unfold c92
 simp -implicitDefEqProofs only [rX,↓rY,ofConst,↓reduceIte,reduceCtorEq,cxN,args0]
 intro hm
 refine loopP_intro (fun k : Nat => ⟨[(8, .i k), (7, .i l.length), (1, .clo 93 [.ptr 0 0 0]), (0, .bro 3 (l.map Fet.enc))], [.var [.i id]], 1⟩) (fun k => k ≤ l.length ∧ ∀ j (h : j < l.length), j < k → eqF id l[j] = false) (fun k => l.length - k) 0 ⟨by omega, fun _ _ h => by omega⟩ ?_ ?_
 ·simp -implicitDefEqProofs only [rX,↓reduceIte,Nat.reduceEqDiff,reduceCtorEq,leE,leH,leB,leV,leVs,keepP,liveP,wfE,wfB,wfV,wfL,yV]
 rintro k ⟨hk, hno⟩
 unfold c92l0
 rcases yI k l.length with hk' | hk'
 ·have hd : decide ((k : Int) < (l.length : Int)) = true := decide_eq_true (by omega)
  have hkk : (0 : Int) ≤ k ∧ (k : Int) < l.length := ⟨by omega, by omega⟩
  simp -implicitDefEqProofs only [rX,↓rY,↓reduceIte,Nat.reduceEqDiff,reduceCtorEq,ft_len,ft_t,yA,hd]
  refine ⟨hkk, hk', ?_⟩
  refine call_isN [0] [.agg l[k].enc, .ptr 0 0 0] (.b (eqF id l[k])) (.b (eqF id l[k])) [.var [.i id]] [.var [.i id]] _ (ok93 l[k] id) (by simp) rfl (by simp [lendsOk, lendOk, lends, lend, wkL, wk, pos, Fet.enc]) (by simp) rfl rfl ⟨trivial, trivial⟩ ?_
  cases h : eqF id l[k] with
  | true =>
   have hf := fst_yes hk' h hno
   simp -implicitDefEqProofs only [rX,↓rY,↓reduceIte,Nat.reduceEqDiff,resP,tupV,leH,leB,leV,leVs,keepP,liveP,wfB,wfV,wfL,setAll,renB,rens,ren,retP_isA,hf]
  | false =>
   simp -implicitDefEqProofs only [rX,↓rY,ofConst,↓reduceIte,Nat.reduceEqDiff,reduceCtorEq,leE,leH,leB,leV,leVs,keepP,liveP,wfE,wfB,wfV,wfL,yA,setAll,renB,rens,ren]
   exact ⟨by simp only [lo, hi, maxLen] at *; omega, k + 1, ⟨⟨by omega, fun j hj hlt => by
    by_cases e : j = k
    ·subst e; exact h
    ·exact hno j hj (by omega)⟩, by omega⟩, by simp⟩
 ·have hd : decide ((k : Int) < (l.length : Int)) = false := decide_eq_false (by omega)
  have hf := fst_no (p := eqF id) (l := l) fun j hj => hno j hj (by omega)
  simp -implicitDefEqProofs only [rX,↓rY,ofConst,↓reduceIte,Nat.reduceEqDiff,resP,tupV,leH,leB,leV,leVs,keepP,liveP,wfB,wfV,wfL,hd,retP_isA,hf]
theorem ok54 (A B : V) (l : List Fet) (id : Int) : Ok 54 [.agg [A, .bro 3 (l.map Fet.enc), B], .i id] (Is (.i (fstI (eqF id) l))) := by
 refine ok_of lw54 (by simp) ?_
 unfold c54
 simp -implicitDefEqProofs only [rX,↓rY,ofConst,cells?,↓reduceIte,Nat.reduceEqDiff,Nat.reduceAdd,reduceCtorEq,freshP,cxN,yA,args0]
 refine call_isN [1] [.bro 3 (l.map Fet.enc), .clo 93 [.ptr 0 0 0]] (.i (fstI (eqF id) l)) (.i (fstI (eqF id) l)) [.var [.i id]] [.var [.i id]] _ (ok92 l id) (by simp) rfl (by simp [lendsOk, lendOk, lends, lend, wkL, wk, wkB, pos]) (by simp) rfl rfl trivial ?_
 simp -implicitDefEqProofs only [rX,↓reduceIte,Nat.reduceAdd,resP,tupV,wfV]
theorem posN_any {l : List Mis} {k : S} (ho : l.Pairwise fun a b => a.key < b.key) (h : l.any (eqM k) = true) : ∃ hp : posN (ltM k) l < l.length, l[posN (ltM k) l].key = k := by
 obtain ⟨m, hm, he⟩ := vZ.1 h
 obtain ⟨i, hi, rfl⟩ := yJ hm
 have he' : l[i].key = k := by unfold eqM at he; simpa using he
 have hp := vG.1 ho
 have : posN (ltM k) l = i := posN_eq (by omega) (fun j hj hlt => decide_eq_true (by rw [← he']; exact hp j i hj hi hlt)) (fun j hj hge => decide_eq_false fun hlt => by
  rcases yI i j with c | c
  ·have h1 := hp i j hi hj c
   rw [he'] at h1
   exact s_irr _ (s_trans h1 hlt)
  ·have : j = i := by omega
   subst this
   rw [he'] at hlt; exact s_irr _ hlt)
 exact ⟨by omega, by simp only [this]; exact he'⟩
end Go.Fx.J
namespace Go.Proofs
open Go Go.Shelf Go.RowKit Go.Lib
theorem run_copy_cellsK {P : Program} (S : Nat) (w : World) (dT sT ty elem : TypeId) (b o dLen dCap : Nat) (a : Addr) (sLen sCap : Nat) (cs : List Value)
  (hu : P.underlying dT = some (.slice elem)) (hs : (P.info? elem).map (·.size) = some S) (hn : cs.length = yS sLen dLen * S)
  (hsrc : ∀ j v, cs[j]? = some v → w.cell? (a.add j) = some v) (hc : ∀ j, j < cs.length → (w.cell? ⟨b, o + j, none⟩).isSome = true) (hf : ∀ j, j < cs.length → w.frozen? ⟨b, o + j, none⟩ = false) (h1 : ∀ v ∈ cs, v.oneCell' = true) :
  (Builtin.copy_ #[dT, sT] ty #[.slice (some ⟨b, o, none⟩) dLen dCap, .slice (some a) sLen sCap]).run P w = .ok (goInt (yS sLen dLen : Nat)) (w.setCells b o cs) := by
 obtain ⟨i, hi, hz⟩ := Option.map_eq_some_iff.1 hs
 subst hz
 have hfc := run_firstCells_some (P := P) w i.size (yS sLen dLen) a sLen sCap cs hn hsrc
 have hst := run_storeCells_cells (P := P) b o cs 0 w (by simpa using hc) (by simpa using hf) h1
 simp only [Nat.add_zero] at hst
 simp [Builtin.copy_, run_underlying hu, Builtin.lenOf, sizeOf, typeInfo, hi, hfc, hst]
set_option maxHeartbeats 4000000 in
set_option maxRecDepth 100000 in
theorem Tryz.ins_shift39 (b off n c i vb voff vc : Nat) (cs vs : List Value) (w : World) (hi : i < n) (hroom : n + 1 ≤ c) (hc63 : c ≤ 9223372036854775807) (hvb : vb ≠ b)
  (hcl : cs.length = n * 3) (hvl : vs.length = 3)
  (hcs : ∀ j v, cs[j]? = some v → w.cell? ⟨b, off + j, none⟩ = some v) (hsp : ∀ j, j < (n + 1) * 3 → (w.cell? ⟨b, off + j, none⟩).isSome = true) (hfz : ∀ j, j < (n + 1) * 3 → w.frozen? ⟨b, off + j, none⟩ = false)
  (hvs : ∀ j v, vs[j]? = some v → w.cell? ⟨vb, voff + j, none⟩ = some v) (h1c : ∀ v ∈ cs, v.oneCell' = true) (h1v : ∀ v ∈ vs, v.oneCell' = true)
  (tA tB : TypeId) (kA kB : Nat) (hsa : w.shape? vb = some (tA, kA)) (hsb : w.shape? b = some (tB, kB)) (hkB : kB ≠ 0) (hfa : w.frozen? ⟨vb, voff, none⟩ = false) (hfe : w.frozen? ⟨vb, kA, none⟩ = false) :
  Calls Tryz.prog 39 #[.slice (some ⟨b, off, none⟩) n c, .int .i64 i, .slice (some ⟨vb, voff, none⟩) 1 vc] w fun e w' =>
   e = .returned (.slice (some ⟨b, off, none⟩) (n + 1) c) ∧ w' = (w.drew.setCells b (off + (i + 1) * 3) (cs.drop (i * 3))).setCells b (off + i * 3) vs := by
 have mixed : Tryz.prog.follows .mixedOrders = true := by kernel_rfl
 have hz2 : ¬ ((i : Int) = (n : Int)) := by omega
 have hsz : (Tryz.prog.info? 66).map (·.size) = some 3 := by kernel_rfl
 have hov : ∀ lb cb, (callFunc 74 #[.slice (some ⟨vb, voff, none⟩) 1 vc, .slice (some ⟨b, off + (i + 1) * 3, none⟩) lb cb]).run Tryz.prog w = .ok (.value (.bool false)) w := fun lb cb => by
  rw [run_callFunc_extern Tryz.func74 (by kernel_rfl) (by kernel_rfl) (by kernel_rfl) (e := Extern.SlicesOverlaps.overlaps #[22, 22] #[4]) (by kernel_rfl),
   Lib.run_overlaps_apart w 22 4 66 Tryz.underlying22 3 Tryz.sizeOf66 ⟨vb, voff, none⟩ ⟨b, off + (i + 1) * 3, none⟩ 1 vc lb cb hvb tA tB kA kB hsa hsb hkB hfa hfe]
  rfl
 have hdl : (cs.drop (i * 3)).length = (n - i) * 3 := by rw [yG, hcl]; omega
 have hw1 : IntKind.i64.wrap ((i : Int) + 1) = (i : Int) + 1 := by rw [IntKind.wrap_i64]; omega
 have hb1 : (0 : Int) ≤ (i : Int) + 1 := by omega
 have hin : i ≤ n := by omega
 have htn : ((i : Int) + 1).toNat = i + 1 := by omega
 have hb2 : ¬ (c = i + 1) := by omega
 have hb3 : (i : Int) ≤ (n : Int) + 1 := by omega
 have hb4 : ¬ (c = i) := by omega
 have hcp1 : ∀ ty dc sc, (Builtin.copy_ #[22, 22] ty #[.slice (some ⟨b, off + (i + 1) * 3, none⟩) (n - i) dc, .slice (some ⟨b, off + i * 3, none⟩) (n + 1 - i) sc]).run Tryz.prog w.drew = .ok (goInt (yS (n + 1 - i) (n - i) : Nat)) (w.drew.setCells b (off + (i + 1) * 3) (cs.drop (i * 3))) := fun ty dc sc =>
  run_copy_cellsK 3 w.drew _ _ ty 66 b (off + (i + 1) * 3) (n - i) dc ⟨b, off + i * 3, none⟩ (n + 1 - i) sc (cs.drop (i * 3)) Tryz.underlying22 hsz (by rw [hdl]; congr 1; simp only [vB]; split <;> omega)
   (fun j v hj => by rw [Addr.add_lit, yB]; exact hcs (i * 3 + j) v (by rwa [yM] at hj))
   (fun j hj => by rw [yB]; exact hsp _ (by omega)) (fun j hj => by rw [yB]; exact hfz _ (by omega)) (fun v hv => h1c v (vQ hv))
 obtain ⟨W1, hW1⟩ : ∃ W1, W1 = w.drew.setCells b (off + (i + 1) * 3) (cs.drop (i * 3)) := ⟨_, rfl⟩
 have hsp1 : ∀ k, k < (n + 1) * 3 → (W1.cell? ⟨b, off + k, none⟩).isSome = true := fun k hk => by
  rw [hW1]
  exact isSome_setCells b _ _ _ (fun j hj => by rw [yB]; exact hsp _ (by omega)) _ (hsp k hk)
 have hcp2 : ∀ (W : World), (∀ x, W.cell? x = W1.cell? x) → (∀ x, W.frozen? x = W1.frozen? x) → ∀ ty dc, (Builtin.copy_ #[22, 22] ty #[.slice (some ⟨b, off + i * 3, none⟩) (n + 1 - i) dc, .slice (some ⟨vb, voff, none⟩) 1 vc]).run Tryz.prog W = .ok (goInt (yS 1 (n + 1 - i) : Nat)) (W.setCells b (off + i * 3) vs) := fun W hWc hWf ty dc =>
  run_copy_cellsK 3 W _ _ ty 66 b (off + i * 3) (n + 1 - i) dc ⟨vb, voff, none⟩ 1 vc vs Tryz.underlying22 hsz (by rw [hvl]; simp only [vB]; split <;> omega)
   (fun j v hj => by
    rw [Addr.add_lit, hWc, hW1, World.cell?_setCells_out b _ _ _ _ (fun h _ => absurd h hvb)]
    exact hvs j v hj)
   (fun j hj => by rw [hWc, yB]; exact hsp1 _ (by omega)) (fun j hj => by rw [hWf, hW1, World.frozen?_setCells, yB]; exact hfz _ (by omega)) h1v
 rw [← hW1] at hcp1
 go_enter Tryz.func39, Tryz.ntmps39
 go_wp2_with (simp only [hov])
 go_region_law_o (refine step_copy_runI rfl _ _ 22 22 rfl _ _ (by simp [Act.eval, Act.put]) (by simp [Act.eval, Act.put]) (hcp1 _ _ _) ?_)
 go_wp2_with (at_builtin; refine wpList_copy_runI _ rfl _ _ 22 22 rfl _ _ rfl rfl (hcp2 _ (fun _ => rfl) (fun _ => rfl) _ _) ?_)
 go_ret
 first | exact ⟨rfl, rfl⟩ | exact ⟨rfl, by rw [hW1]⟩
set_option maxHeartbeats 4000000 in
set_option maxRecDepth 100000 in
theorem Tryz.ins_end_room39 (b off n c vb voff vc : Nat) (vs : List Value) (w : World) (hroom : n + 1 ≤ c) (hc63 : c ≤ 9223372036854775807)
  (hvl : vs.length = 3) (hsp : ∀ j, j < 3 → (w.cell? ⟨b, off + n * 3 + j, none⟩).isSome = true) (hfz : ∀ j, j < 3 → w.frozen? ⟨b, off + n * 3 + j, none⟩ = false)
  (hvs : ∀ j v, vs[j]? = some v → w.cell? ⟨vb, voff + j, none⟩ = some v) (h1v : ∀ v ∈ vs, v.oneCell' = true) :
  Calls Tryz.prog 39 #[.slice (some ⟨b, off, none⟩) n c, .int .i64 n, .slice (some ⟨vb, voff, none⟩) 1 vc] w fun e w' =>
   e = .returned (.slice (some ⟨b, off, none⟩) (n + 1) c) ∧ w' = w.setCells b (off + n * 3) vs := by
 have mixed : Tryz.prog.follows .mixedOrders = true := by kernel_rfl
 have hi0 : Tryz.prog.info? 66 = some Tryz.t66 := by kernel_rfl
 have hs0 : Tryz.t66.size = 3 := by kernel_rfl
 have hsrc : Src Tryz.prog Tryz.t66.size 22 (.slice (some ⟨vb, voff, none⟩) 1 vc) 1 vs w := Src.ofSlice w Tryz.underlying22 ⟨vb, voff, none⟩ 1 vc vs (by rw [hvl, hs0]) (fun j u hj => by rw [Addr.add_lit]; exact hvs j u hj) h1v
 rw [show n * 3 = n * Tryz.t66.size by rw [hs0]] at *
 go_enter Tryz.func39, Tryz.ntmps39
 go_wp2_with (at_builtin; refine wpList_append_room_src _ rfl _ _ 22 22 rfl 66 Tryz.t66 Tryz.underlying22 hi0 b off n c rfl _ rfl 1 vs hsrc hroom (by rw [hvl]; exact hsp) (by rw [hvl]; exact hfz) ?_)
 go_ret
 exact ⟨rfl, rfl⟩
set_option maxHeartbeats 4000000 in
set_option maxRecDepth 100000 in
theorem Tryz.ins_end_grow39 (base : Option Addr) (n c vb voff vc : Nat) (cs vs : List Value) (w : World) (hnc : n ≤ c) (hroom : c < n + 1) (hbig : (n + 1) * 64 ≤ 140737488355328)
  (hcl : cs.length = n * 3) (hvl : vs.length = 3) (hnil : base = none → n = 0)
  (hcs : ∀ a, base = some a → ∀ j v, cs[j]? = some v → w.cell? (a.add j) = some v)
  (hvs : ∀ j v, vs[j]? = some v → w.cell? ⟨vb, voff + j, none⟩ = some v) (h1v : ∀ v ∈ vs, v.oneCell' = true) :
  Calls Tryz.prog 39 #[.slice base n c, .int .i64 n, .slice (some ⟨vb, voff, none⟩) 1 vc] w fun e w' => ∃ (G : Nat) (row : Array Value), n + 1 ≤ G ∧ G ≤ 9223372036854775807 ∧ row.size = G * 3 ∧ (∀ (j : Nat) (v : Value), (cs ++ vs)[j]? = some v → row[j]? = some v) ∧
   e = .returned (.slice (some ⟨w.heap.size, 0, none⟩) (n + 1) G) ∧ w' = w.drew.alloc (.cells row 66) := by
 have mixed : Tryz.prog.follows .mixedOrders = true := by kernel_rfl
 have hi0 : Tryz.prog.info? 66 = some Tryz.t66 := by kernel_rfl
 have hs0 : Tryz.t66.size = 3 := by kernel_rfl
 have hb0 : Tryz.t66.bytes = 64 := by kernel_rfl
 have hz0 : Tryz.t66.zero = some (.agg #[.string ⟨#[]⟩, .slice none 0 0, .slice none 0 0]) := by kernel_rfl
 have hsrc : Src Tryz.prog Tryz.t66.size 22 (.slice (some ⟨vb, voff, none⟩) 1 vc) 1 vs w := Src.ofSlice w Tryz.underlying22 ⟨vb, voff, none⟩ 1 vc vs (by rw [hvl, hs0]) (fun j u hj => by rw [Addr.add_lit]; exact hvs j u hj) h1v
 have hold : (Builtin.firstCells Tryz.t66.size n (.slice base n c)).run Tryz.prog w.drew = .ok cs.toArray w.drew := by
  cases base with
  | none =>
   have h0 := hnil rfl
   subst h0
   have hc0 : cs = [] := vA.1 (by simpa using hcl)
   rw [hc0]
   exact run_firstCells_none w.drew _ 0 0 c
  | some a => exact run_firstCells_some w.drew _ n a n c cs (by rw [hs0]; exact hcl) (fun j v hj => hcs a rfl j v hj)
 have hrun : ∀ ty, _ := fun ty => run_append_grow_src w 22 22 ty 66 Tryz.t66 _ Tryz.underlying22 hi0 hz0 base n c cs hold _ 1 vs hsrc hroom (by omega) (by rw [hb0]; exact growslice_fits hroom hbig)
 obtain ⟨G, hG⟩ : ∃ G, G = grownCap w (n + 1) c 66 := ⟨_, rfl⟩
 have hGn : n + 1 ≤ G := by rw [hG]; exact grownCap_ge w _ _ _
 have hG63 : G ≤ 9223372036854775807 := by
  have := grownCap_le_maxLen w (n + 1) c 66 (by unfold maxLen; omega)
  rw [← hG] at this
  unfold maxLen at this
  omega
 rw [← hG] at hrun
 generalize hrow : (cs ++ vs).toArray ++ Builtin.zeroCells (Value.agg #[Value.string ⟨#[]⟩, Value.slice none 0 0, Value.slice none 0 0]).cells (G - (n + 1)) = row at hrun
 have hsz : row.size = G * 3 := by
  rw [← hrow]
  simp [Builtin.zeroCells, Value.cells, hcl, hvl]
  omega
 have hcells : ∀ (j : Nat) (v : Value), (cs ++ vs)[j]? = some v → row[j]? = some v := by
  intro j v hj
  have hlt : j < (cs ++ vs).length := (yF.1 hj).1
  rw [← hrow, uB (by simpa using hlt)]
  simpa using hj
 clear hold hG hrow
 go_enter Tryz.func39, Tryz.ntmps39
 cases base with
 | none =>
  have h0 := hnil rfl
  subst h0
  go_wp2_with (at_builtin; refine Lib.wpList_append_run _ rfl _ _ _ _ rfl _ _ rfl rfl _ _ (hrun _) ?_)
  go_ret
  first | exact ⟨G, hGn, hG63, row, hsz, hcells, rfl, rfl⟩ | exact ⟨G, row, hGn, hG63, hsz, hcells, rfl, rfl⟩
 | some a =>
  obtain ⟨ab, ao, asp⟩ := a
  go_wp2_with (at_builtin; refine Lib.wpList_append_run _ rfl _ _ _ _ rfl _ _ rfl rfl _ _ (hrun _) ?_)
  all_goals (go_ret; first | exact ⟨G, hGn, hG63, row, hsz, hcells, rfl, rfl⟩ | exact ⟨G, row, hGn, hG63, hsz, hcells, rfl, rfl⟩)
set_option maxHeartbeats 4000000 in
set_option maxRecDepth 100000 in
theorem Tryz.ins_grow39 (b off n c i vb voff vc : Nat) (cs vs : List Value) (w : World) (hi : i < n) (hnc : n ≤ c) (hroom : c < n + 1) (hbig : (n + 1) * 64 ≤ 140737488355328)
  (hcl : cs.length = n * 3) (hvl : vs.length = 3)
  (hcs : ∀ j v, cs[j]? = some v → w.cell? ⟨b, off + j, none⟩ = some v)
  (hvs : ∀ j v, vs[j]? = some v → w.cell? ⟨vb, voff + j, none⟩ = some v) (h1c : ∀ v ∈ cs, v.oneCell' = true) (h1v : ∀ v ∈ vs, v.oneCell' = true) :
  Calls Tryz.prog 39 #[.slice (some ⟨b, off, none⟩) n c, .int .i64 i, .slice (some ⟨vb, voff, none⟩) 1 vc] w fun e w' => ∃ (G : Nat) (row : Array Value), n + 1 ≤ G ∧ G ≤ 9223372036854775807 ∧ row.size = G * 3 ∧ (∀ (j : Nat) (v : Value), (cs.take (i * 3))[j]? = some v → row[j]? = some v) ∧
   e = .returned (.slice (some ⟨w.heap.size, 0, none⟩) (n + 1) G) ∧ w' = (((w.alloc (.cells row 66)).drew.setCells w.heap.size (i * 3) vs).drew).setCells w.heap.size ((i + 1) * 3) (cs.drop (i * 3)) := by
 have mixed : Tryz.prog.follows .mixedOrders = true := by kernel_rfl
 have hi0 : Tryz.prog.info? 66 = some Tryz.t66 := by kernel_rfl
 have hs0 : Tryz.t66.size = 3 := by kernel_rfl
 have hb0 : Tryz.t66.bytes = 64 := by kernel_rfl
 have hz0 : Tryz.t66.zero = some (.agg #[.string ⟨#[]⟩, .slice none 0 0, .slice none 0 0]) := by kernel_rfl
 have hz2 : ¬ ((i : Int) = (n : Int)) := by omega
 have hz3 : (c : Int) < (n : Int) + 1 := by omega
 have hsz : (Tryz.prog.info? 66).map (·.size) = some 3 := by kernel_rfl
 have hbw : b < w.heap.size := block_lt_of_cell (hcs 0 _ (yH (by omega)))
 have hvw : vb < w.heap.size := block_lt_of_cell (hvs 0 _ (yH (by omega)))
 have hkk : (n : Int) + 1 - (i : Int) = ((n + 1 - i : Nat) : Int) := by omega
 have hik : i + (n + 1 - i) = n + 1 := by omega
 have hold : (Builtin.firstCells Tryz.t66.size i (.slice (some ⟨b, off, none⟩) i c)).run Tryz.prog w.drew = .ok (cs.take (i * 3)).toArray w.drew :=
  run_firstCells_some w.drew _ i ⟨b, off, none⟩ i c (cs.take (i * 3)) (by rw [yL, hs0]; omega) (fun j v hj => by
   rw [Addr.add_lit]
   rw [List.getElem?_take] at hj
   split at hj
   ·exact hcs j v hj
   ·cases hj)
 have hrz := fun ty => Lib.run_append_grow_zeros w 22 3 ty 66 Tryz.t66 _ .i64 .i64 Tryz.underlying22 Tryz.underlying3 hi0 hz0 (some ⟨b, off, none⟩) i c (cs.take (i * 3)) hold (n + 1 - i) (by omega) (by omega) (by omega) (by omega) (by rw [hb0]; omega) (by rw [hb0, hik]; exact growslice_fits hroom hbig)
 simp only [hik] at hrz
 simp only [← hkk] at hrz
 obtain ⟨G, hG⟩ : ∃ G, G = grownCap w (n + 1) c 66 := ⟨_, rfl⟩
 have hGn : n + 1 ≤ G := by rw [hG]; exact grownCap_ge w _ _ _
 have hG63 : G ≤ 9223372036854775807 := by
  have := grownCap_le_maxLen w (n + 1) c 66 (by unfold maxLen; omega)
  rw [← hG] at this
  unfold maxLen at this
  omega
 rw [← hG] at hrz
 generalize hROW : (cs.take (i * 3)).toArray ++ Builtin.zeroCells (Value.agg #[Value.string ⟨#[]⟩, Value.slice none 0 0, Value.slice none 0 0]).cells (n + 1 - i) ++ Builtin.zeroCells (Value.agg #[Value.string ⟨#[]⟩, Value.slice none 0 0, Value.slice none 0 0]).cells (G - (n + 1)) = ROW at hrz
 have hRs : ROW.size = G * 3 := by
  rw [← hROW]
  simp [Builtin.zeroCells, Value.cells, hcl]
  omega
 have hRc : ∀ (j : Nat) (v : Value), (cs.take (i * 3))[j]? = some v → ROW[j]? = some v := by
  intro j v hj
  have hlt : j < (cs.take (i * 3)).length := (yF.1 hj).1
  rw [← hROW, Array.append_assoc, uB (by simpa using hlt)]
  simpa using hj
 obtain ⟨W1, hW1⟩ : ∃ W1, W1 = w.drew.alloc (.cells ROW 66) := ⟨_, rfl⟩
 rw [← hW1] at hrz
 have hN : ∀ j, j < (n + 1) * 3 → (W1.cell? ⟨w.heap.size, j, none⟩).isSome = true := fun j hj => by
  rw [hW1, World.cell?_alloc_at (w := w.drew) ROW _ w.heap.size j rfl, vI (by omega)]; rfl
 have hNf : ∀ j, W1.frozen? ⟨w.heap.size, j, none⟩ = false := fun j => by rw [hW1]; exact World.frozen?_alloc_at (w := w.drew) ROW _ w.heap.size j rfl
 have hOb : ∀ j v, w.cell? ⟨b, j, none⟩ = some v → W1.cell? ⟨b, j, none⟩ = some v := fun j v h => by rw [hW1, World.cell?_alloc_past (w := w.drew) _ b j hbw]; exact h
 have hOv : ∀ j v, w.cell? ⟨vb, j, none⟩ = some v → W1.cell? ⟨vb, j, none⟩ = some v := fun j v h => by rw [hW1, World.cell?_alloc_past (w := w.drew) _ vb j hvw]; exact h
 have hcpA : ∀ (W : World), (∀ x, W.cell? x = W1.cell? x) → (∀ x, W.frozen? x = W1.frozen? x) → ∀ ty dc, (Builtin.copy_ #[22, 22] ty #[.slice (some ⟨w.heap.size, i * 3, none⟩) (n + 1 - i) dc, .slice (some ⟨vb, voff, none⟩) 1 vc]).run Tryz.prog W = .ok (goInt (yS 1 (n + 1 - i) : Nat)) (W.setCells w.heap.size (i * 3) vs) := fun W hWc hWf ty dc =>
  run_copy_cellsK 3 W _ _ ty 66 w.heap.size (i * 3) (n + 1 - i) dc ⟨vb, voff, none⟩ 1 vc vs Tryz.underlying22 hsz (by rw [hvl]; simp only [vB]; split <;> omega)
   (fun j v hj => by rw [Addr.add_lit, hWc]; exact hOv _ v (hvs j v hj))
   (fun j hj => by rw [hWc]; exact hN _ (by omega)) (fun j hj => by rw [hWf]; exact hNf _) h1v
 have hGi : ¬ (G = i) := by omega
 have hGim : ¬ (G = i + 1) := by omega
 have hci : ¬ (c = i) := by omega
 have hbN : b ≠ w.heap.size := by omega
 have hdl : (cs.drop (i * 3)).length = (n - i) * 3 := by rw [yG, hcl]; omega
 have hcpB : ∀ (W : World), (∀ x, W.cell? x = (W1.setCells w.heap.size (i * 3) vs).cell? x) → (∀ x, W.frozen? x = (W1.setCells w.heap.size (i * 3) vs).frozen? x) → ∀ ty dc sc, (Builtin.copy_ #[22, 22] ty #[.slice (some ⟨w.heap.size, (i + 1) * 3, none⟩) (n - i) dc, .slice (some ⟨b, off + i * 3, none⟩) (n - i) sc]).run Tryz.prog W = .ok (goInt (yS (n - i) (n - i) : Nat)) (W.setCells w.heap.size ((i + 1) * 3) (cs.drop (i * 3))) := fun W hWc hWf ty dc sc =>
  run_copy_cellsK 3 W _ _ ty 66 w.heap.size ((i + 1) * 3) (n - i) dc ⟨b, off + i * 3, none⟩ (n - i) sc (cs.drop (i * 3)) Tryz.underlying22 hsz (by rw [hdl]; congr 1; simp only [vB]; split <;> omega)
   (fun j v hj => by
    rw [Addr.add_lit, hWc, World.cell?_setCells_out _ _ _ _ _ (fun h _ => absurd h hbN), yB]
    exact hOb _ v (hcs (i * 3 + j) v (by rwa [yM] at hj)))
   (fun j hj => by rw [hWc]; exact isSome_setCells _ _ _ _ (fun t ht => hN _ (by omega)) _ (hN _ (by omega)))
   (fun j hj => by rw [hWf, World.frozen?_setCells]; exact hNf _) (fun v hv => h1c v (vQ hv))
 subst hW1
 have hE1 : ∀ x, ((w.alloc (.cells ROW 66)).drew).cell? x = (w.drew.alloc (.cells ROW 66)).cell? x := fun x => rfl
 have hE2 : ∀ x, ((w.alloc (.cells ROW 66)).drew).frozen? x = (w.drew.alloc (.cells ROW 66)).frozen? x := fun x => rfl
 have hF1 : ∀ x, (((w.alloc (.cells ROW 66)).drew.setCells w.heap.size (i * 3) vs).drew).cell? x = ((w.drew.alloc (.cells ROW 66)).setCells w.heap.size (i * 3) vs).cell? x := fun x => rfl
 have hF2 : ∀ x, (((w.alloc (.cells ROW 66)).drew.setCells w.heap.size (i * 3) vs).drew).frozen? x = ((w.drew.alloc (.cells ROW 66)).setCells w.heap.size (i * 3) vs).frozen? x := fun x => rfl
 have hw1 : IntKind.i64.wrap ((i : Int) + 1) = (i : Int) + 1 := by rw [IntKind.wrap_i64]; omega
 have hb1 : (0 : Int) ≤ (i : Int) + 1 := by omega
 have hin : i ≤ n := by omega
 have htn : ((i : Int) + 1).toNat = i + 1 := by omega
 have hb3 : (i : Int) ≤ (n : Int) := by omega
 clear hkk hik hold hROW hG
 go_enter Tryz.func39, Tryz.ntmps39
 go_wp2_with (first
  | (at_builtin; refine Lib.wpList_append_run _ rfl _ _ _ _ rfl _ _ rfl rfl _ _ (hrz _) ?_)
  | (at_builtin; refine wpList_copy_runI _ rfl _ _ 22 22 rfl _ _ rfl rfl (hcpA _ hE1 hE2 _ _) ?_)
  | (at_builtin; refine wpList_copy_runI _ rfl _ _ 22 22 rfl _ _ rfl rfl (hcpB _ (fun _ => rfl) (fun _ => rfl) _ _ _) ?_))
 go_region_law_o (refine step_copy_runI rfl _ _ 22 22 rfl (.slice (some ⟨w.heap.size, (i + 1) * 3, none⟩) (n - i) (G - (i + 1))) (.slice (some ⟨b, off + i * 3, none⟩) (n - i) (c - i)) (by simp [Act.eval, Act.put]) (by simp [Act.eval, Act.put]) (hcpB _ hF1 hF2 3 (G - (i + 1)) (c - i)) ?_)
 go_wp2
 go_ret
 first | exact ⟨G, hGn, hG63, ROW, hRs, hRc, rfl, rfl⟩ | exact ⟨G, ROW, hGn, hG63, hRs, hRc, rfl, rfl⟩
set_option maxHeartbeats 4000000 in
set_option maxRecDepth 100000 in
theorem Tryz.ins_shift45 (b off n c i vb voff vc : Nat) (cs vs : List Value) (w : World) (hi : i < n) (hroom : n + 1 ≤ c) (hc63 : c ≤ 9223372036854775807) (hvb : vb ≠ b)
  (hcl : cs.length = n * 2) (hvl : vs.length = 2)
  (hcs : ∀ j v, cs[j]? = some v → w.cell? ⟨b, off + j, none⟩ = some v) (hsp : ∀ j, j < (n + 1) * 2 → (w.cell? ⟨b, off + j, none⟩).isSome = true) (hfz : ∀ j, j < (n + 1) * 2 → w.frozen? ⟨b, off + j, none⟩ = false)
  (hvs : ∀ j v, vs[j]? = some v → w.cell? ⟨vb, voff + j, none⟩ = some v) (h1c : ∀ v ∈ cs, v.oneCell' = true) (h1v : ∀ v ∈ vs, v.oneCell' = true)
  (tA tB : TypeId) (kA kB : Nat) (hsa : w.shape? vb = some (tA, kA)) (hsb : w.shape? b = some (tB, kB)) (hkB : kB ≠ 0) (hfa : w.frozen? ⟨vb, voff, none⟩ = false) (hfe : w.frozen? ⟨vb, kA, none⟩ = false) :
  Calls Tryz.prog 45 #[.slice (some ⟨b, off, none⟩) n c, .int .i64 i, .slice (some ⟨vb, voff, none⟩) 1 vc] w fun e w' =>
   e = .returned (.slice (some ⟨b, off, none⟩) (n + 1) c) ∧ w' = (w.drew.setCells b (off + (i + 1) * 2) (cs.drop (i * 2))).setCells b (off + i * 2) vs := by
 have mixed : Tryz.prog.follows .mixedOrders = true := by kernel_rfl
 have hz2 : ¬ ((i : Int) = (n : Int)) := by omega
 have hsz : (Tryz.prog.info? 85).map (·.size) = some 2 := by kernel_rfl
 have hov : ∀ lb cb, (callFunc 83 #[.slice (some ⟨vb, voff, none⟩) 1 vc, .slice (some ⟨b, off + (i + 1) * 2, none⟩) lb cb]).run Tryz.prog w = .ok (.value (.bool false)) w := fun lb cb => by
  rw [run_callFunc_extern Tryz.func83 (by kernel_rfl) (by kernel_rfl) (by kernel_rfl) (e := Extern.SlicesOverlaps.overlaps #[64, 64] #[4]) (by kernel_rfl),
   Lib.run_overlaps_apart w 64 4 85 Tryz.underlying64 2 Tryz.sizeOf85 ⟨vb, voff, none⟩ ⟨b, off + (i + 1) * 2, none⟩ 1 vc lb cb hvb tA tB kA kB hsa hsb hkB hfa hfe]
  rfl
 have hdl : (cs.drop (i * 2)).length = (n - i) * 2 := by rw [yG, hcl]; omega
 have hw1 : IntKind.i64.wrap ((i : Int) + 1) = (i : Int) + 1 := by rw [IntKind.wrap_i64]; omega
 have hb1 : (0 : Int) ≤ (i : Int) + 1 := by omega
 have hin : i ≤ n := by omega
 have htn : ((i : Int) + 1).toNat = i + 1 := by omega
 have hb2 : ¬ (c = i + 1) := by omega
 have hb3 : (i : Int) ≤ (n : Int) + 1 := by omega
 have hb4 : ¬ (c = i) := by omega
 have hcp1 : ∀ ty dc sc, (Builtin.copy_ #[64, 64] ty #[.slice (some ⟨b, off + (i + 1) * 2, none⟩) (n - i) dc, .slice (some ⟨b, off + i * 2, none⟩) (n + 1 - i) sc]).run Tryz.prog w.drew = .ok (goInt (yS (n + 1 - i) (n - i) : Nat)) (w.drew.setCells b (off + (i + 1) * 2) (cs.drop (i * 2))) := fun ty dc sc =>
  run_copy_cellsK 2 w.drew _ _ ty 85 b (off + (i + 1) * 2) (n - i) dc ⟨b, off + i * 2, none⟩ (n + 1 - i) sc (cs.drop (i * 2)) Tryz.underlying64 hsz (by rw [hdl]; congr 1; simp only [vB]; split <;> omega)
   (fun j v hj => by rw [Addr.add_lit, yB]; exact hcs (i * 2 + j) v (by rwa [yM] at hj))
   (fun j hj => by rw [yB]; exact hsp _ (by omega)) (fun j hj => by rw [yB]; exact hfz _ (by omega)) (fun v hv => h1c v (vQ hv))
 obtain ⟨W1, hW1⟩ : ∃ W1, W1 = w.drew.setCells b (off + (i + 1) * 2) (cs.drop (i * 2)) := ⟨_, rfl⟩
 have hsp1 : ∀ k, k < (n + 1) * 2 → (W1.cell? ⟨b, off + k, none⟩).isSome = true := fun k hk => by
  rw [hW1]
  exact isSome_setCells b _ _ _ (fun j hj => by rw [yB]; exact hsp _ (by omega)) _ (hsp k hk)
 have hcp2 : ∀ (W : World), (∀ x, W.cell? x = W1.cell? x) → (∀ x, W.frozen? x = W1.frozen? x) → ∀ ty dc, (Builtin.copy_ #[64, 64] ty #[.slice (some ⟨b, off + i * 2, none⟩) (n + 1 - i) dc, .slice (some ⟨vb, voff, none⟩) 1 vc]).run Tryz.prog W = .ok (goInt (yS 1 (n + 1 - i) : Nat)) (W.setCells b (off + i * 2) vs) := fun W hWc hWf ty dc =>
  run_copy_cellsK 2 W _ _ ty 85 b (off + i * 2) (n + 1 - i) dc ⟨vb, voff, none⟩ 1 vc vs Tryz.underlying64 hsz (by rw [hvl]; simp only [vB]; split <;> omega)
   (fun j v hj => by
    rw [Addr.add_lit, hWc, hW1, World.cell?_setCells_out b _ _ _ _ (fun h _ => absurd h hvb)]
    exact hvs j v hj)
   (fun j hj => by rw [hWc, yB]; exact hsp1 _ (by omega)) (fun j hj => by rw [hWf, hW1, World.frozen?_setCells, yB]; exact hfz _ (by omega)) h1v
 rw [← hW1] at hcp1
 go_enter Tryz.func45, Tryz.ntmps45
 go_wp2_with (simp only [hov])
 go_region_law_o (refine step_copy_runI rfl _ _ 64 64 rfl _ _ (by simp [Act.eval, Act.put]) (by simp [Act.eval, Act.put]) (hcp1 _ _ _) ?_)
 go_wp2_with (at_builtin; refine wpList_copy_runI _ rfl _ _ 64 64 rfl _ _ rfl rfl (hcp2 _ (fun _ => rfl) (fun _ => rfl) _ _) ?_)
 go_ret
 first | exact ⟨rfl, rfl⟩ | exact ⟨rfl, by rw [hW1]⟩
set_option maxHeartbeats 4000000 in
set_option maxRecDepth 100000 in
theorem Tryz.ins_end_room45 (b off n c vb voff vc : Nat) (vs : List Value) (w : World) (hroom : n + 1 ≤ c) (hc63 : c ≤ 9223372036854775807)
  (hvl : vs.length = 2) (hsp : ∀ j, j < 2 → (w.cell? ⟨b, off + n * 2 + j, none⟩).isSome = true) (hfz : ∀ j, j < 2 → w.frozen? ⟨b, off + n * 2 + j, none⟩ = false)
  (hvs : ∀ j v, vs[j]? = some v → w.cell? ⟨vb, voff + j, none⟩ = some v) (h1v : ∀ v ∈ vs, v.oneCell' = true) :
  Calls Tryz.prog 45 #[.slice (some ⟨b, off, none⟩) n c, .int .i64 n, .slice (some ⟨vb, voff, none⟩) 1 vc] w fun e w' =>
   e = .returned (.slice (some ⟨b, off, none⟩) (n + 1) c) ∧ w' = w.setCells b (off + n * 2) vs := by
 have mixed : Tryz.prog.follows .mixedOrders = true := by kernel_rfl
 have hi0 : Tryz.prog.info? 85 = some Tryz.t85 := by kernel_rfl
 have hs0 : Tryz.t85.size = 2 := by kernel_rfl
 have hsrc : Src Tryz.prog Tryz.t85.size 64 (.slice (some ⟨vb, voff, none⟩) 1 vc) 1 vs w := Src.ofSlice w Tryz.underlying64 ⟨vb, voff, none⟩ 1 vc vs (by rw [hvl, hs0]) (fun j u hj => by rw [Addr.add_lit]; exact hvs j u hj) h1v
 rw [show n * 2 = n * Tryz.t85.size by rw [hs0]] at *
 go_enter Tryz.func45, Tryz.ntmps45
 go_wp2_with (at_builtin; refine wpList_append_room_src _ rfl _ _ 64 64 rfl 85 Tryz.t85 Tryz.underlying64 hi0 b off n c rfl _ rfl 1 vs hsrc hroom (by rw [hvl]; exact hsp) (by rw [hvl]; exact hfz) ?_)
 go_ret
 exact ⟨rfl, rfl⟩
set_option maxHeartbeats 4000000 in
set_option maxRecDepth 100000 in
theorem Tryz.ins_end_grow45 (base : Option Addr) (n c vb voff vc : Nat) (cs vs : List Value) (w : World) (hnc : n ≤ c) (hroom : c < n + 1) (hbig : (n + 1) * 32 ≤ 140737488355328)
  (hcl : cs.length = n * 2) (hvl : vs.length = 2) (hnil : base = none → n = 0)
  (hcs : ∀ a, base = some a → ∀ j v, cs[j]? = some v → w.cell? (a.add j) = some v)
  (hvs : ∀ j v, vs[j]? = some v → w.cell? ⟨vb, voff + j, none⟩ = some v) (h1v : ∀ v ∈ vs, v.oneCell' = true) :
  Calls Tryz.prog 45 #[.slice base n c, .int .i64 n, .slice (some ⟨vb, voff, none⟩) 1 vc] w fun e w' => ∃ (G : Nat) (row : Array Value), n + 1 ≤ G ∧ G ≤ 9223372036854775807 ∧ row.size = G * 2 ∧ (∀ (j : Nat) (v : Value), (cs ++ vs)[j]? = some v → row[j]? = some v) ∧
   e = .returned (.slice (some ⟨w.heap.size, 0, none⟩) (n + 1) G) ∧ w' = w.drew.alloc (.cells row 85) := by
 have mixed : Tryz.prog.follows .mixedOrders = true := by kernel_rfl
 have hi0 : Tryz.prog.info? 85 = some Tryz.t85 := by kernel_rfl
 have hs0 : Tryz.t85.size = 2 := by kernel_rfl
 have hb0 : Tryz.t85.bytes = 32 := by kernel_rfl
 have hz0 : Tryz.t85.zero = some (.agg #[.int .i64 0, .slice none 0 0]) := by kernel_rfl
 have hsrc : Src Tryz.prog Tryz.t85.size 64 (.slice (some ⟨vb, voff, none⟩) 1 vc) 1 vs w := Src.ofSlice w Tryz.underlying64 ⟨vb, voff, none⟩ 1 vc vs (by rw [hvl, hs0]) (fun j u hj => by rw [Addr.add_lit]; exact hvs j u hj) h1v
 have hold : (Builtin.firstCells Tryz.t85.size n (.slice base n c)).run Tryz.prog w.drew = .ok cs.toArray w.drew := by
  cases base with
  | none =>
   have h0 := hnil rfl
   subst h0
   have hc0 : cs = [] := vA.1 (by simpa using hcl)
   rw [hc0]
   exact run_firstCells_none w.drew _ 0 0 c
  | some a => exact run_firstCells_some w.drew _ n a n c cs (by rw [hs0]; exact hcl) (fun j v hj => hcs a rfl j v hj)
 have hrun : ∀ ty, _ := fun ty => run_append_grow_src w 64 64 ty 85 Tryz.t85 _ Tryz.underlying64 hi0 hz0 base n c cs hold _ 1 vs hsrc hroom (by omega) (by rw [hb0]; exact growslice_fits hroom hbig)
 obtain ⟨G, hG⟩ : ∃ G, G = grownCap w (n + 1) c 85 := ⟨_, rfl⟩
 have hGn : n + 1 ≤ G := by rw [hG]; exact grownCap_ge w _ _ _
 have hG63 : G ≤ 9223372036854775807 := by
  have := grownCap_le_maxLen w (n + 1) c 85 (by unfold maxLen; omega)
  rw [← hG] at this
  unfold maxLen at this
  omega
 rw [← hG] at hrun
 generalize hrow : (cs ++ vs).toArray ++ Builtin.zeroCells (Value.agg #[Value.int .i64 0, Value.slice none 0 0]).cells (G - (n + 1)) = row at hrun
 have hsz : row.size = G * 2 := by
  rw [← hrow]
  simp [Builtin.zeroCells, Value.cells, hcl, hvl]
  omega
 have hcells : ∀ (j : Nat) (v : Value), (cs ++ vs)[j]? = some v → row[j]? = some v := by
  intro j v hj
  have hlt : j < (cs ++ vs).length := (yF.1 hj).1
  rw [← hrow, uB (by simpa using hlt)]
  simpa using hj
 clear hold hG hrow
 go_enter Tryz.func45, Tryz.ntmps45
 cases base with
 | none =>
  have h0 := hnil rfl
  subst h0
  go_wp2_with (at_builtin; refine Lib.wpList_append_run _ rfl _ _ _ _ rfl _ _ rfl rfl _ _ (hrun _) ?_)
  go_ret
  first | exact ⟨G, hGn, hG63, row, hsz, hcells, rfl, rfl⟩ | exact ⟨G, row, hGn, hG63, hsz, hcells, rfl, rfl⟩
 | some a =>
  obtain ⟨ab, ao, asp⟩ := a
  go_wp2_with (at_builtin; refine Lib.wpList_append_run _ rfl _ _ _ _ rfl _ _ rfl rfl _ _ (hrun _) ?_)
  all_goals (go_ret; first | exact ⟨G, hGn, hG63, row, hsz, hcells, rfl, rfl⟩ | exact ⟨G, row, hGn, hG63, hsz, hcells, rfl, rfl⟩)
set_option maxHeartbeats 4000000 in
set_option maxRecDepth 100000 in
theorem Tryz.ins_grow45 (b off n c i vb voff vc : Nat) (cs vs : List Value) (w : World) (hi : i < n) (hnc : n ≤ c) (hroom : c < n + 1) (hbig : (n + 1) * 32 ≤ 140737488355328)
  (hcl : cs.length = n * 2) (hvl : vs.length = 2)
  (hcs : ∀ j v, cs[j]? = some v → w.cell? ⟨b, off + j, none⟩ = some v)
  (hvs : ∀ j v, vs[j]? = some v → w.cell? ⟨vb, voff + j, none⟩ = some v) (h1c : ∀ v ∈ cs, v.oneCell' = true) (h1v : ∀ v ∈ vs, v.oneCell' = true) :
  Calls Tryz.prog 45 #[.slice (some ⟨b, off, none⟩) n c, .int .i64 i, .slice (some ⟨vb, voff, none⟩) 1 vc] w fun e w' => ∃ (G : Nat) (row : Array Value), n + 1 ≤ G ∧ G ≤ 9223372036854775807 ∧ row.size = G * 2 ∧ (∀ (j : Nat) (v : Value), (cs.take (i * 2))[j]? = some v → row[j]? = some v) ∧
   e = .returned (.slice (some ⟨w.heap.size, 0, none⟩) (n + 1) G) ∧ w' = (((w.alloc (.cells row 85)).drew.setCells w.heap.size (i * 2) vs).drew).setCells w.heap.size ((i + 1) * 2) (cs.drop (i * 2)) := by
 have mixed : Tryz.prog.follows .mixedOrders = true := by kernel_rfl
 have hi0 : Tryz.prog.info? 85 = some Tryz.t85 := by kernel_rfl
 have hs0 : Tryz.t85.size = 2 := by kernel_rfl
 have hb0 : Tryz.t85.bytes = 32 := by kernel_rfl
 have hz0 : Tryz.t85.zero = some (.agg #[.int .i64 0, .slice none 0 0]) := by kernel_rfl
 have hz2 : ¬ ((i : Int) = (n : Int)) := by omega
 have hz3 : (c : Int) < (n : Int) + 1 := by omega
 have hsz : (Tryz.prog.info? 85).map (·.size) = some 2 := by kernel_rfl
 have hbw : b < w.heap.size := block_lt_of_cell (hcs 0 _ (yH (by omega)))
 have hvw : vb < w.heap.size := block_lt_of_cell (hvs 0 _ (yH (by omega)))
 have hkk : (n : Int) + 1 - (i : Int) = ((n + 1 - i : Nat) : Int) := by omega
 have hik : i + (n + 1 - i) = n + 1 := by omega
 have hold : (Builtin.firstCells Tryz.t85.size i (.slice (some ⟨b, off, none⟩) i c)).run Tryz.prog w.drew = .ok (cs.take (i * 2)).toArray w.drew :=
  run_firstCells_some w.drew _ i ⟨b, off, none⟩ i c (cs.take (i * 2)) (by rw [yL, hs0]; omega) (fun j v hj => by
   rw [Addr.add_lit]
   rw [List.getElem?_take] at hj
   split at hj
   ·exact hcs j v hj
   ·cases hj)
 have hrz := fun ty => Lib.run_append_grow_zeros w 64 3 ty 85 Tryz.t85 _ .i64 .i64 Tryz.underlying64 Tryz.underlying3 hi0 hz0 (some ⟨b, off, none⟩) i c (cs.take (i * 2)) hold (n + 1 - i) (by omega) (by omega) (by omega) (by omega) (by rw [hb0]; omega) (by rw [hb0, hik]; exact growslice_fits hroom hbig)
 simp only [hik] at hrz
 simp only [← hkk] at hrz
 obtain ⟨G, hG⟩ : ∃ G, G = grownCap w (n + 1) c 85 := ⟨_, rfl⟩
 have hGn : n + 1 ≤ G := by rw [hG]; exact grownCap_ge w _ _ _
 have hG63 : G ≤ 9223372036854775807 := by
  have := grownCap_le_maxLen w (n + 1) c 85 (by unfold maxLen; omega)
  rw [← hG] at this
  unfold maxLen at this
  omega
 rw [← hG] at hrz
 generalize hROW : (cs.take (i * 2)).toArray ++ Builtin.zeroCells (Value.agg #[Value.int .i64 0, Value.slice none 0 0]).cells (n + 1 - i) ++ Builtin.zeroCells (Value.agg #[Value.int .i64 0, Value.slice none 0 0]).cells (G - (n + 1)) = ROW at hrz
 have hRs : ROW.size = G * 2 := by
  rw [← hROW]
  simp [Builtin.zeroCells, Value.cells, hcl]
  omega
 have hRc : ∀ (j : Nat) (v : Value), (cs.take (i * 2))[j]? = some v → ROW[j]? = some v := by
  intro j v hj
  have hlt : j < (cs.take (i * 2)).length := (yF.1 hj).1
  rw [← hROW, Array.append_assoc, uB (by simpa using hlt)]
  simpa using hj
 obtain ⟨W1, hW1⟩ : ∃ W1, W1 = w.drew.alloc (.cells ROW 85) := ⟨_, rfl⟩
 rw [← hW1] at hrz
 have hN : ∀ j, j < (n + 1) * 2 → (W1.cell? ⟨w.heap.size, j, none⟩).isSome = true := fun j hj => by
  rw [hW1, World.cell?_alloc_at (w := w.drew) ROW _ w.heap.size j rfl, vI (by omega)]; rfl
 have hNf : ∀ j, W1.frozen? ⟨w.heap.size, j, none⟩ = false := fun j => by rw [hW1]; exact World.frozen?_alloc_at (w := w.drew) ROW _ w.heap.size j rfl
 have hOb : ∀ j v, w.cell? ⟨b, j, none⟩ = some v → W1.cell? ⟨b, j, none⟩ = some v := fun j v h => by rw [hW1, World.cell?_alloc_past (w := w.drew) _ b j hbw]; exact h
 have hOv : ∀ j v, w.cell? ⟨vb, j, none⟩ = some v → W1.cell? ⟨vb, j, none⟩ = some v := fun j v h => by rw [hW1, World.cell?_alloc_past (w := w.drew) _ vb j hvw]; exact h
 have hcpA : ∀ (W : World), (∀ x, W.cell? x = W1.cell? x) → (∀ x, W.frozen? x = W1.frozen? x) → ∀ ty dc, (Builtin.copy_ #[64, 64] ty #[.slice (some ⟨w.heap.size, i * 2, none⟩) (n + 1 - i) dc, .slice (some ⟨vb, voff, none⟩) 1 vc]).run Tryz.prog W = .ok (goInt (yS 1 (n + 1 - i) : Nat)) (W.setCells w.heap.size (i * 2) vs) := fun W hWc hWf ty dc =>
  run_copy_cellsK 2 W _ _ ty 85 w.heap.size (i * 2) (n + 1 - i) dc ⟨vb, voff, none⟩ 1 vc vs Tryz.underlying64 hsz (by rw [hvl]; simp only [vB]; split <;> omega)
   (fun j v hj => by rw [Addr.add_lit, hWc]; exact hOv _ v (hvs j v hj))
   (fun j hj => by rw [hWc]; exact hN _ (by omega)) (fun j hj => by rw [hWf]; exact hNf _) h1v
 have hGi : ¬ (G = i) := by omega
 have hGim : ¬ (G = i + 1) := by omega
 have hci : ¬ (c = i) := by omega
 have hbN : b ≠ w.heap.size := by omega
 have hdl : (cs.drop (i * 2)).length = (n - i) * 2 := by rw [yG, hcl]; omega
 have hcpB : ∀ (W : World), (∀ x, W.cell? x = (W1.setCells w.heap.size (i * 2) vs).cell? x) → (∀ x, W.frozen? x = (W1.setCells w.heap.size (i * 2) vs).frozen? x) → ∀ ty dc sc, (Builtin.copy_ #[64, 64] ty #[.slice (some ⟨w.heap.size, (i + 1) * 2, none⟩) (n - i) dc, .slice (some ⟨b, off + i * 2, none⟩) (n - i) sc]).run Tryz.prog W = .ok (goInt (yS (n - i) (n - i) : Nat)) (W.setCells w.heap.size ((i + 1) * 2) (cs.drop (i * 2))) := fun W hWc hWf ty dc sc =>
  run_copy_cellsK 2 W _ _ ty 85 w.heap.size ((i + 1) * 2) (n - i) dc ⟨b, off + i * 2, none⟩ (n - i) sc (cs.drop (i * 2)) Tryz.underlying64 hsz (by rw [hdl]; congr 1; simp only [vB]; split <;> omega)
   (fun j v hj => by
    rw [Addr.add_lit, hWc, World.cell?_setCells_out _ _ _ _ _ (fun h _ => absurd h hbN), yB]
    exact hOb _ v (hcs (i * 2 + j) v (by rwa [yM] at hj)))
   (fun j hj => by rw [hWc]; exact isSome_setCells _ _ _ _ (fun t ht => hN _ (by omega)) _ (hN _ (by omega)))
   (fun j hj => by rw [hWf, World.frozen?_setCells]; exact hNf _) (fun v hv => h1c v (vQ hv))
 subst hW1
 have hE1 : ∀ x, ((w.alloc (.cells ROW 85)).drew).cell? x = (w.drew.alloc (.cells ROW 85)).cell? x := fun x => rfl
 have hE2 : ∀ x, ((w.alloc (.cells ROW 85)).drew).frozen? x = (w.drew.alloc (.cells ROW 85)).frozen? x := fun x => rfl
 have hF1 : ∀ x, (((w.alloc (.cells ROW 85)).drew.setCells w.heap.size (i * 2) vs).drew).cell? x = ((w.drew.alloc (.cells ROW 85)).setCells w.heap.size (i * 2) vs).cell? x := fun x => rfl
 have hF2 : ∀ x, (((w.alloc (.cells ROW 85)).drew.setCells w.heap.size (i * 2) vs).drew).frozen? x = ((w.drew.alloc (.cells ROW 85)).setCells w.heap.size (i * 2) vs).frozen? x := fun x => rfl
 have hw1 : IntKind.i64.wrap ((i : Int) + 1) = (i : Int) + 1 := by rw [IntKind.wrap_i64]; omega
 have hb1 : (0 : Int) ≤ (i : Int) + 1 := by omega
 have hin : i ≤ n := by omega
 have htn : ((i : Int) + 1).toNat = i + 1 := by omega
 have hb3 : (i : Int) ≤ (n : Int) := by omega
 clear hkk hik hold hROW hG
 go_enter Tryz.func45, Tryz.ntmps45
 go_wp2_with (first
  | (at_builtin; refine Lib.wpList_append_run _ rfl _ _ _ _ rfl _ _ rfl rfl _ _ (hrz _) ?_)
  | (at_builtin; refine wpList_copy_runI _ rfl _ _ 64 64 rfl _ _ rfl rfl (hcpA _ hE1 hE2 _ _) ?_)
  | (at_builtin; refine wpList_copy_runI _ rfl _ _ 64 64 rfl _ _ rfl rfl (hcpB _ (fun _ => rfl) (fun _ => rfl) _ _ _) ?_))
 go_region_law_o (refine step_copy_runI rfl _ _ 64 64 rfl (.slice (some ⟨w.heap.size, (i + 1) * 2, none⟩) (n - i) (G - (i + 1))) (.slice (some ⟨b, off + i * 2, none⟩) (n - i) (c - i)) (by simp [Act.eval, Act.put]) (by simp [Act.eval, Act.put]) (hcpB _ hF1 hF2 3 (G - (i + 1)) (c - i)) ?_)
 go_wp2
 go_ret
 first | exact ⟨G, hGn, hG63, ROW, hRs, hRc, rfl, rfl⟩ | exact ⟨G, ROW, hGn, hG63, hRs, hRc, rfl, rfl⟩
end Go.Proofs
namespace Go.Fx
open Go.RowKit
end Go.Fx
namespace Go.Fx
open Go.RowKit
def Vals (R : V → Value → Prop) (S : Nat) (els : List (List V)) (cs : List Value) : Prop :=
 cs.length = els.length * S ∧ ∀ (r : Nat) (e : List V), els[r]? = some e → e.length = S ∧ ∀ (f : Nat) (x : V), e[f]? = some x → ∃ u, cs[r * S + f]? = some u ∧ R x u
theorem Vals.mono {R R' : V → Value → Prop} {S : Nat} {els : List (List V)} {cs : List Value} (h : Vals R S els cs) (hR : ∀ x u, R x u → R' x u) : Vals R' S els cs :=
 ⟨h.1, fun r e he => ⟨(h.2 r e he).1, fun f x hx => by obtain ⟨u, h1, h2⟩ := (h.2 r e he).2 f x hx; exact ⟨u, h1, hR x u h2⟩⟩⟩
theorem row_lt {r f S n : Nat} (hr : r < n) (hf : f < S) : r * S + f < n * S := by
 have : (r + 1) * S ≤ n * S := uC S hr
 rw [uD] at this
 omega
theorem Vals.drop {R : V → Value → Prop} {S : Nat} {els : List (List V)} {cs : List Value} (h : Vals R S els cs) (i : Nat) : Vals R S (els.drop i) (cs.drop (i * S)) := by
 refine ⟨by rw [yG, yG, h.1, vR], fun r e he => ?_⟩
 rw [yM] at he
 refine ⟨(h.2 _ e he).1, fun f x hx => ?_⟩
 obtain ⟨u, h1, h2⟩ := (h.2 _ e he).2 f x hx
 exact ⟨u, by rw [yM, ← h1]; congr 1; rw [uD]; omega, h2⟩
theorem Vals.take {R : V → Value → Prop} {S : Nat} {els : List (List V)} {cs : List Value} (h : Vals R S els cs) {i : Nat} (hi : i ≤ els.length) : Vals R S (els.take i) (cs.take (i * S)) := by
 refine ⟨by rw [yL, yL, h.1, Nat.min_eq_left hi, Nat.min_eq_left (uC S hi)], fun r e he => ?_⟩
 have hr : r < i := by
  have := (yF.1 he).1
  rw [yL] at this; omega
 rw [yT hr] at he
 refine ⟨(h.2 _ e he).1, fun f x hx => ?_⟩
 obtain ⟨u, h1, h2⟩ := (h.2 _ e he).2 f x hx
 have hf : f < S := by rw [← (h.2 _ e he).1]; exact (yF.1 hx).1
 exact ⟨u, by rw [yT (row_lt hr hf)]; exact h1, h2⟩
theorem Vals.app {R : V → Value → Prop} {S : Nat} {a b : List (List V)} {cs ds : List Value} (h1 : Vals R S a cs) (h2 : Vals R S b ds) : Vals R S (a ++ b) (cs ++ ds) := by
 refine ⟨by rw [yU, yU, h1.1, h2.1, uD], fun r e he => ?_⟩
 by_cases hr : r < a.length
 ·rw [vE hr] at he
  refine ⟨(h1.2 r e he).1, fun f x hx => ?_⟩
  obtain ⟨u, q1, q2⟩ := (h1.2 r e he).2 f x hx
  have := (yF.1 q1).1
  exact ⟨u, by rw [vE this]; exact q1, q2⟩
 ·rw [yY (by omega)] at he
  refine ⟨(h2.2 _ e he).1, fun f x hx => ?_⟩
  obtain ⟨u, q1, q2⟩ := (h2.2 _ e he).2 f x hx
  have hm : a.length * S ≤ r * S := uC S (by omega)
  refine ⟨u, ?_, q2⟩
  rw [yY (by rw [h1.1]; omega), ← q1, h1.1]
  congr 1
  rw [vR]; omega
section
variable {ρ : Nat → Loc} {X : Nat → Prop} {w : World}
theorem arv_vals {k S : Nat} {els : List (List V)} (h : RepB ρ X w k (.arv S els)) : (ρ k).real = true ∧ ∃ c T cs, w.heap[(ρ k).blk]? = some (.cells c T (0, 0)) ∧ c.size = (ρ k).room ∧ (ρ k).off + els.length * S ≤ (ρ k).room ∧
  (∀ j v, cs[j]? = some v → c[(ρ k).off + j]? = some v) ∧ Vals (RepV ρ X w) S els cs := by
 obtain ⟨⟨h1, h2⟩, h3, c, T, h4, h5, h6, h7⟩ := h
 refine ⟨h3, c, T, (c.toList.drop (ρ k).off).take (els.length * S), h4, h5, h6, fun j v hj => ?_, ?_, fun r e he => ?_⟩
 ·have hl : j < els.length * S := by
   have := (yF.1 hj).1
   rw [yL] at this; omega
  rw [yT hl, yM, uE] at hj
  exact hj
 ·have hct : c.toList.length = c.size := uO
  rw [yL, yG, hct]; omega
 ·obtain ⟨q1, q2⟩ := h7 r e he
  refine ⟨q1, fun f x hx => ?_⟩
  obtain ⟨u, q3, q4⟩ := q2 f x hx
  have hf : f < S := by rw [← q1]; exact (yF.1 hx).1
  have hr : r < els.length := (yF.1 he).1
  exact ⟨u, by rw [yT (row_lt hr hf), yM, uE, ← yB]; exact q3, q4⟩
theorem arr_vals {k S : Nat} {els : List (List V)} (h : RepB ρ X w k (.arr S els)) (hr : (ρ k).real = true) : ∃ c T cs, w.heap[(ρ k).blk]? = some (.cells c T (0, 0)) ∧ c.size = (ρ k).room ∧ (ρ k).off + els.length * S ≤ (ρ k).room ∧
  (∀ j v, cs[j]? = some v → c[(ρ k).off + j]? = some v) ∧ Vals (RepD (Sta ρ X w) w) S els cs := by
 obtain ⟨⟨h1, h2⟩, ⟨h3, _⟩ | ⟨h3, c, T, h4, h5, h6, h7⟩⟩ := h
 ·rw [hr] at h3; cases h3
 refine ⟨c, T, (c.toList.drop (ρ k).off).take (els.length * S), h4, h5, h6, fun j v hj => ?_, ?_, fun r e he => ?_⟩
 ·have hl : j < els.length * S := by
   have := (yF.1 hj).1
   rw [yL] at this; omega
  rw [yT hl, yM, uE] at hj
  exact hj
 ·have hct : c.toList.length = c.size := uO
  rw [yL, yG, hct]; omega
 ·obtain ⟨q1, q2⟩ := RepEls_get h7 he
  refine ⟨q1, fun f x hx => ?_⟩
  obtain ⟨u, q3, q4⟩ := RepCs_get q2 hx
  have hf : f < S := by rw [← q1]; exact (yF.1 hx).1
  have hr : r < els.length := (yF.1 he).1
  refine ⟨u, ?_, q4⟩
  rw [yT (row_lt hr hf), yM, uE]
  simp only [World.cell?, h4] at q3
  rw [← yB]
  simpa using q3
theorem arr_of {k S : Nat} {els : List (List V)} {c : Array Value} {T : TypeId} {cs : List Value} (h1 : (ρ k).sz = S ∧ 0 < S) (h2 : (ρ k).real = true) (h4 : w.heap[(ρ k).blk]? = some (.cells c T (0, 0))) (h5 : c.size = (ρ k).room) (h6 : (ρ k).off + els.length * S ≤ (ρ k).room)
  (hc : ∀ j v, cs[j]? = some v → c[(ρ k).off + j]? = some v) (hv : Vals (RepD (Sta ρ X w) w) S els cs) : RepB ρ X w k (.arr S els) := by
 refine ⟨h1, .inr ⟨h2, c, T, h4, h5, h6, RepEls_mk fun r e he => ?_⟩⟩
 obtain ⟨q1, q2⟩ := hv.2 r e he
 refine ⟨q1, RepCs_mk fun f x hx => ?_⟩
 obtain ⟨u, q3, q4⟩ := q2 f x hx
 refine ⟨u, ?_, q4⟩
 simp only [World.cell?, h4]
 have := hc _ _ q3
 rw [← yB] at this
 simpa using this
theorem arv_of {k S : Nat} {els : List (List V)} {c : Array Value} {T : TypeId} {cs : List Value} (h1 : (ρ k).sz = S ∧ 0 < S) (h2 : (ρ k).real = true) (h4 : w.heap[(ρ k).blk]? = some (.cells c T (0, 0))) (h5 : c.size = (ρ k).room) (h6 : (ρ k).off + els.length * S ≤ (ρ k).room)
  (hc : ∀ j v, cs[j]? = some v → c[(ρ k).off + j]? = some v) (hv : Vals (RepV ρ X w) S els cs) : RepB ρ X w k (.arv S els) := by
 refine ⟨h1, h2, c, T, h4, h5, h6, fun r e he => ?_⟩
 obtain ⟨q1, q2⟩ := hv.2 r e he
 refine ⟨q1, fun f x hx => ?_⟩
 obtain ⟨u, q3, q4⟩ := q2 f x hx
 exact ⟨u, by have := hc _ _ q3; rwa [← yB] at this, q4⟩
end
def RawDel (P : Program) (f : FuncId) (S : Nat) : Prop := ∃ zs : List Value, zs.length = S ∧ ∀ (b off n c i : Nat) (cs : List Value) (w : World), i < n → n ≤ c → c ≤ 9223372036854775807 → cs.length = n * S →
  (∀ j v, cs[j]? = some v → w.cell? ⟨b, off + j, none⟩ = some v) → (∀ j, j < n * S → w.frozen? ⟨b, off + j, none⟩ = false) → (∀ v ∈ cs.drop ((i + 1) * S), v.oneCell' = true) →
  Calls P f #[.slice (some ⟨b, off, none⟩) n c, .int .i64 i, .int .i64 ((i : Int) + 1)] w fun e w' =>
   e = .returned (.slice (some ⟨b, off, none⟩) (n - 1) c) ∧ w' = (w.drew.setCells b (off + i * S) (cs.drop ((i + 1) * S))).setCells b (off + (n - 1) * S) zs
theorem fn_del {P : Program} {f : FuncId} {S : Nat} (hcal : Callable P f) (hraw : RawDel P f S) {els : List (List V)} {i : Nat} (hi : i < els.length) (hC : ∀ r e, i < r → els[r]? = some e → e.all isC = true) :
  OkN P f [.sl 0 0 els.length, .i i, .i ((i : Int) + 1)] [.arv S els] [] (IsA (.sl 0 0 (els.length - 1)) [.arv S (els.take i ++ els.drop (i + 1))]) := by
 refine ⟨hcal, ?_⟩
 obtain ⟨zs, hz, hraw⟩ := hraw
 intro ρ X w vals hr ha
 match vals, ha with
 | [v0, v1, v2], ⟨hv0, hv1, hv2, _⟩ =>
 obtain rfl : v1 = .int .i64 i := hv1
 obtain rfl : v2 = .int .i64 ((i : Int) + 1) := hv2
 have hB := hr.blk 0 _ rfl
 obtain ⟨hsz, hS⟩ := hB.1
 obtain ⟨hreal, c, T, cs, hc, hcs, hlen, hcell, hvals⟩ := arv_vals hB
 obtain ⟨cap, h1, h2, h3⟩ := hv0
 rcases h3 with ⟨h4, _⟩ | ⟨_, rfl, hroom⟩
 ·omega
 have hoff : (ρ 0).off + 0 * (ρ 0).sz = (ρ 0).off := by omega
 rw [hoff]
 have hcell' : ∀ j v, cs[j]? = some v → w.cell? ⟨(ρ 0).blk, (ρ 0).off + j, none⟩ = some v := fun j v hj => by
  simp only [World.cell?, hc]
  simpa using hcell j v hj
 have hfz : ∀ j, j < els.length * S → w.frozen? ⟨(ρ 0).blk, (ρ 0).off + j, none⟩ = false := fun j _ => by
  simp [World.frozen?, hc]
 have hone : ∀ v ∈ cs.drop ((i + 1) * S), v.oneCell' = true := by
  intro v hv
  obtain ⟨j, hj, rfl⟩ := yJ hv
  have hdv := hvals.drop (i + 1)
  have hj2 : j < (els.drop (i + 1)).length * S := by rw [← hdv.1]; exact hj
  have hr1 : j / S < (els.drop (i + 1)).length := Nat.div_lt_of_lt_mul (by rw [Nat.mul_comm]; exact hj2)
  obtain ⟨q1, q2⟩ := hdv.2 _ _ (yH hr1)
  have hf : j % S < ((els.drop (i + 1))[j / S]).length := by rw [q1]; exact Nat.mod_lt _ hS
  obtain ⟨u, q3, q4⟩ := q2 _ _ (yH hf)
  have hjj : j / S * S + j % S = j := by rw [Nat.mul_comm]; exact Nat.div_add_mod j S
  rw [hjj, yH hj] at q3
  simp only [vJ] at q3
  subst q3
  refine RepV_one ?_ q4
  have hall := hC (i + 1 + j / S) _ (vS (Nat.lt_succ_self i) (Nat.le_add_right _ _)) (by rw [← yM]; exact yH hr1)
  exact vH.1 hall _ (yD hf)
 refine (hraw (ρ 0).blk (ρ 0).off els.length cap i cs w hi h1 (by simpa [maxLen] using h2) hvals.1 hcell' hfz hone).mono ?_
 rintro e w' ⟨rfl, rfl⟩
 have hdl : (cs.drop ((i + 1) * S)).length = (els.length - (i + 1)) * S := by rw [yG, hvals.1, vR]
 have hi1 : (i + 1) * S ≤ els.length * S := uC S hi
 have e1 : (i + 1) * S = i * S + S := by rw [uD]; omega
 have e2 : (els.length - 1) * S = els.length * S - S := by rw [vR]; omega
 have e3 : (els.length - (i + 1)) * S = els.length * S - (i * S + S) := by rw [vR, e1]
 have hcd : w.drew.heap[(ρ 0).blk]? = some (.cells c T (0, 0)) := hc
 obtain ⟨c1, a1, a2, a3⟩ := setCells_heap (ρ 0).blk (cs.drop ((i + 1) * S)) ((ρ 0).off + i * S) w.drew c T (0, 0) hcd (by rw [hdl, hcs]; omega)
 obtain ⟨c2, b1, b2, b3⟩ := setCells_heap (ρ 0).blk zs ((ρ 0).off + (els.length - 1) * S) _ c1 T (0, 0) a1 (by rw [hz, a2, hcs]; omega)
 have hf0 : Fr ρ w ρ w.drew := ⟨rfl, rfl, rfl, yE _, fun b _ ho => ⟨rfl, ho⟩⟩
 have hr0 : Rep ρ X w.drew [.arv S els] := ⟨hr.inj, hr.out, fun k B hB => RepB_mono hf0 (fun _ _ => rfl) rfl (fun _ => rfl) (hr.blk k B hB), hr.disj, hr.lt, hr.xlt⟩
 have hf1 := store_fr hr0 hreal ((ρ 0).off + i * S) (cs.drop ((i + 1) * S))
 have hnew : Vals (RepV ρ X w) S (els.take i ++ els.drop (i + 1)) (cs.take (i * S) ++ cs.drop ((i + 1) * S)) := (hvals.take (uP hi)).app (hvals.drop (i + 1))
 have hnl : (els.take i ++ els.drop (i + 1)).length = els.length - 1 := by rw [yU, yL, yG]; omega
 have htl : (cs.take (i * S)).length = i * S := by rw [yL, hvals.1]; omega
 generalize hW1 : w.drew.setCells (ρ 0).blk ((ρ 0).off + i * S) (cs.drop ((i + 1) * S)) = W1 at *
 have hf2 : Fr ρ W1 ρ (W1.setCells (ρ 0).blk ((ρ 0).off + (els.length - 1) * S) zs) := ⟨(setCells_rest _ _ _ _).1, (setCells_rest _ _ _ _).2.1, (setCells_rest _ _ _ _).2.2, by rw [setCells_size]; exact yE _, fun b _ ho => ⟨setCells_other _ _ _ _ _ (fun e => ho ⟨0, hreal, e.symm⟩), ho⟩⟩
 have hf := (hf0.trans hf1).trans hf2
 refine ⟨_, .sl 0 0 (els.length - 1), [.arv S (els.take i ++ els.drop (i + 1))], ρ, rfl, ⟨⟨rfl, rfl⟩, yE _⟩, hf, ⟨hr.inj, hr.out, fun k B hB => ?_, hr.disj, fun k hk => vS (hr.lt k hk) hf.size, fun b hb => vS (hr.xlt b hb) hf.size⟩, ?_, fun _ _ _ => rfl⟩
 ·match k, hB with
  | 0, hB =>
   simp only [uQ, vJ] at hB
   subst hB
   refine arv_of ⟨hsz, hS⟩ hreal b1 (by rw [b2, a2]; exact hcs) (by rw [hnl]; omega) (fun j v hj => ?_) (hnew.mono fun x u h => RepV_mono hf (fun _ _ => rfl) x u h)
   have hjl : j < (els.length - 1) * S := by
    have := (yF.1 hj).1
    rw [hnew.1, hnl] at this; exact this
   rw [b3, if_neg (by omega), a3]
   by_cases hji : j < i * S
   ·rw [vE (by rw [htl]; exact hji), yT hji] at hj
    rw [if_neg (by omega)]
    exact hcell j v hj
   ·rw [yY (by rw [htl]; omega), htl] at hj
    rw [if_pos (by rw [hdl]; omega), ← hj]
    congr 1; omega
  | k + 1, hB => simp at hB
 ·exact ⟨cap, by omega, h2, .inr ⟨hreal, by rw [hoff], by rw [hsz] at hroom ⊢; exact hroom⟩⟩
end Go.Fx
namespace Go.Fx.J
open Go Go.Fx Go.Proofs Go.Fx.R
set_option maxRecDepth 20000
theorem ins_get39 {cs vs : List Value} {n i : Nat} (hcl : cs.length = n * 3) (hvl : vs.length = 3) (hi : i ≤ n) (j : Nat) : (cs.take (i * 3) ++ vs ++ cs.drop (i * 3))[j]? = if j < i * 3 then (cs.take (i * 3))[j]? else if j < (i + 1) * 3 then vs[j - i * 3]? else (cs.drop (i * 3))[j - (i + 1) * 3]? := by
 have e1 : (cs.take (i * 3)).length = i * 3 := by rw [yL]; omega
 by_cases h1 : j < i * 3
 ·rw [if_pos h1, yZ, vE (by omega)]
 ·rw [if_neg h1, yZ, yY (by omega), e1]
  by_cases h2 : j < (i + 1) * 3
  ·rw [if_pos h2, vE (by omega)]
  ·rw [if_neg h2, yY (by omega), hvl, show j - i * 3 - 3 = j - (i + 1) * 3 by omega]
theorem ins_close39 {ρ : Nat → Loc} {X : Nat → Prop} {w w' : World} {l d : List (List V)} {m : List V} {ds : List Value} (hr : Rep ρ X w [.arr 3 l, .arr 3 [m]]) (L : Loc) (h1 : L.real = true) (h2 : L.sz = 3) (B : Nat) (hB : L.blk = B) (hB2 : (ρ 0).real = true ∧ B = (ρ 0).blk ∨ B = w.heap.size)
  {c : Array Value} {T : TypeId} (hc : w'.heap[B]? = some (.cells c T (0, 0))) (hcs : c.size = L.room) (hlen : L.off + d.length * 3 ≤ L.room) (hd : ∀ j v, ds[j]? = some v → c[L.off + j]? = some v) (hv : Vals (RepD (Sta ρ X w) w) 3 d ds)
  (hos : w'.os = w.os) (htp : w'.tape = w.tape) (hou : w'.output = w.output) (hsz : w.heap.size ≤ w'.heap.size) (hlt : B < w'.heap.size) (hkeep : ∀ b, b < w.heap.size → b ≠ B → w'.heap[b]? = w.heap[b]?)
  {cap : Nat} (hc1 : d.length ≤ cap) (hc2 : cap ≤ maxLen) (hc3 : L.off + cap * 3 ≤ L.room) :
  ∃ r h' ρ', (IsA (.sl 0 0 d.length) [.arr 3 d, .dead] r h' ∧ [Blk.arr 3 l, .arr 3 [m]].length ≤ h'.length) ∧ Fr ρ w ρ' w' ∧ Rep ρ' X w' h' ∧ RepV ρ' X w' r (.slice (some ⟨B, L.off, none⟩) d.length cap) ∧
   ∀ k, k < [Blk.arr 3 l, .arr 3 [m]].length → k ∉ [0, 1] → ρ' k = ρ k := by
 have hloc : ∀ k, ((if k = 0 then L else if k = 1 then { ρ 1 with real := false } else ρ k : Loc)).real = true → k = 0 := by
  intro k hk
  by_cases e : k = 0
  ·exact e
  ·rw [if_neg e] at hk
   by_cases e1 : k = 1
   ·rw [if_pos e1] at hk; cases hk
   ·rw [if_neg e1, hr.out k (by simp; omega)] at hk; cases hk
 have hfr : Fr ρ w (fun k => if k = 0 then L else if k = 1 then { ρ 1 with real := false } else ρ k) w' := by
  refine ⟨hos, htp, hou, hsz, fun b hb ho => ?_⟩
  have hbB : b ≠ B := by
   rintro rfl
   rcases hB2 with ⟨e1, e2⟩ | e
   ·exact ho ⟨0, e1, e2.symm⟩
   ·omega
  refine ⟨hkeep b hb hbB, ?_⟩
  rintro ⟨k, hk, hb2⟩
  have := hloc k hk
  subst this
  simp only [if_pos] at hb2
  exact hbB (hb2.symm.trans hB)
 refine ⟨.sl 0 0 d.length, [.arr 3 d, .dead], fun k => if k = 0 then L else if k = 1 then { ρ 1 with real := false } else ρ k, ⟨⟨rfl, rfl⟩, by simp⟩, hfr, ⟨fun j k hjk h1 h2 => ?_, fun k hk => ?_, fun k b hb => ?_, ?_, fun k h => ?_, fun b hb => vS (hr.xlt b hb) hsz⟩, ⟨cap, hc1, hc2, .inr ⟨h1, by simp [hB], by simp [h2, hc3]⟩⟩, fun k hk hn => ?_⟩
 ·exact absurd ((hloc j h1).trans (hloc k h2).symm) hjk
 ·have hk0 : k ≠ 0 := by simp at hk; omega
  have hk1 : k ≠ 1 := by simp at hk; omega
  simp only [if_neg hk0, if_neg hk1]
  exact hr.out k (by simp at hk ⊢; omega)
 ·match k, hb with
  | 0, hb =>
   simp only [uQ, vJ] at hb
   subst hb
   exact arr_of (cs := ds) ⟨by simp [h2], by decide⟩ (by simp [h1]) (c := c) (T := T) (by simp [hB, hc]) (by simp [hcs]) (by simpa using hlen) (by simpa using hd) (hv.mono fun x u h => RepD_mono hfr.sta x u h)
  | 1, hb =>
   simp at hb
   subst hb
   rfl
  | k + 2, hb => simp at hb
 ·rintro b ⟨k, hk, hb2⟩ hX
  have := hloc k hk
  subst this
  simp only [if_pos] at hb2
  rw [hB] at hb2
  subst hb2
  rcases hB2 with ⟨e1, e2⟩ | e
  ·exact hr.disj _ ⟨0, e1, e2.symm⟩ hX
  ·have := hr.xlt _ hX
   omega
 ·have := hloc k h
  subst this
  simp only [if_pos, hB]
  exact hlt
 ·simp at hk hn
  omega
set_option maxHeartbeats 1000000 in
theorem ok39 (l : List (List V)) (i : Nat) (m : List V) (hi : i ≤ l.length) (hn : l.length ≤ 1000000000000) :
  OkN Tryz.prog 39 [.sl 0 0 l.length, .i i, .sl 1 0 1] [.arr 3 l, .arr 3 [m]] [0, 1] (IsA (.sl 0 0 (l.length + 1)) [.arr 3 (insT l i m), .dead]) := by
 refine ⟨cal Tryz.func39 (by kernel_rfl) (by kernel_rfl), ?_⟩
 intro ρ X w vals hr ha
 match vals, ha with
 | [v0, v1, v2], ⟨h0, h1, h2, _⟩ =>
 have h1' : v1 = .int .i64 i := h1
 subst h1'
 have hdl : (insT l i m).length = l.length + 1 := insT_len
 obtain ⟨vc, g1, g2, g3⟩ := h2
 rcases g3 with ⟨g4, _⟩ | ⟨hre1, rfl, hroom1⟩
 ·omega
 obtain ⟨c1, T1, vs, hcc1, hcs1, hlen1, hcell1, hvv⟩ := arr_vals (hr.blk 1 _ rfl) hre1
 have hoff1 : (ρ 1).off + 0 * (ρ 1).sz = (ρ 1).off := by omega
 rw [hoff1]
 have hvl : vs.length = 3 := by rw [hvv.1]; rfl
 have hvs : ∀ j v, vs[j]? = some v → w.cell? ⟨(ρ 1).blk, (ρ 1).off + j, none⟩ = some v := fun j v hj => by
  simp only [World.cell?, hcc1]
  simpa using hcell1 j v hj
 have oneV : ∀ {els : List (List V)} {cs : List Value}, Vals (RepD (Sta ρ X w) w) 3 els cs → ∀ v ∈ cs, v.oneCell' = true := by
  intro els cs hv v hm
  obtain ⟨j, hj, rfl⟩ := yJ hm
  have hj2 : j < els.length * 3 := by rw [← hv.1]; exact hj
  have hr1 : j / 3 < els.length := by omega
  obtain ⟨q1, q2⟩ := hv.2 _ _ (yH hr1)
  have hf : j % 3 < (els[j / 3]).length := by rw [q1]; omega
  obtain ⟨u, q3, q4⟩ := q2 _ _ (yH hf)
  rw [show j / 3 * 3 + j % 3 = j by omega, yH hj] at q3
  simp only [vJ] at q3
  subst q3
  exact RepD_one q4
 have h1v : ∀ v ∈ vs, v.oneCell' = true := oneV hvv
 have hlt1 := hr.lt 1 hre1
 have hnew : ∀ {cs : List Value}, Vals (RepD (Sta ρ X w) w) 3 l cs → Vals (RepD (Sta ρ X w) w) 3 (insT l i m) (cs.take (i * 3) ++ vs ++ cs.drop (i * 3)) := fun {cs} h => by
  have := ((h.take hi).app hvv).app (h.drop i)
  unfold insT
  simpa using this
 -- a new row
 have fresh : ∀ (cs : List Value) (cap : Nat) (w' : World) (c : Array Value), Vals (RepD (Sta ρ X w) w) 3 l cs → l.length + 1 ≤ cap → cap ≤ 9223372036854775807 → c.size = cap * 3 →
   w'.heap[w.heap.size]? = some (.cells c 66 (0, 0)) → (∀ (j : Nat) (v : Value), (cs.take (i * 3) ++ vs ++ cs.drop (i * 3))[j]? = some v → c[j]? = some v) → w'.os = w.os → w'.tape = w.tape → w'.output = w.output → w'.heap.size = w.heap.size + 1 → (∀ b, b < w.heap.size → w'.heap[b]? = w.heap[b]?) →
   ∃ r h' ρ', (IsA (.sl 0 0 (insT l i m).length) [.arr 3 (insT l i m), .dead] r h' ∧ [Blk.arr 3 l, .arr 3 [m]].length ≤ h'.length) ∧ Fr ρ w ρ' w' ∧ Rep ρ' X w' h' ∧ RepV ρ' X w' r (.slice (some ⟨w.heap.size, 0, none⟩) (insT l i m).length cap) ∧
    ∀ k, k < [Blk.arr 3 l, .arr 3 [m]].length → k ∉ [0, 1] → ρ' k = ρ k := by
  intro cs cap w' c q0 q1 q2 q3 q4 q5 q6 q7 q8 q9 q10
  exact ins_close39 hr { ρ 0 with real := true, blk := w.heap.size, off := 0, sz := 3, room := cap * 3 } rfl rfl w.heap.size rfl (.inr rfl) q4 (by simpa using q3) (by simp; omega) (by simpa using q5) (hnew q0) q6 q7 q8 (by omega) (by omega) (fun b hb _ => q10 b hb) (by omega) (by unfold maxLen; omega) (by simp)
 have hall : ∀ (row : Array Value), (w.drew.alloc (.cells row 66)).heap[w.heap.size]? = some (.cells row 66 (0, 0)) := fun row => by
  simp only [World.alloc, World.drew]
  simp
 have hold : ∀ (row : Array Value) b, b < w.heap.size → (w.drew.alloc (.cells row 66)).heap[b]? = w.heap[b]? := by
  intro row b hb
  simp only [World.alloc, World.drew]
  rw [uW (by simpa using hb), vI (by simpa using hb)]
 have hgrow : ∀ (cs : List Value) (base : Option Addr) (c : Nat), Vals (RepD (Sta ρ X w) w) 3 l cs → i = l.length → l.length ≤ c → c < l.length + 1 → (base = none → l.length = 0) → (∀ a, base = some a → ∀ j v, cs[j]? = some v → w.cell? (a.add j) = some v) →
   Calls Tryz.prog 39 #[.slice base l.length c, .int .i64 i, .slice (some ⟨(ρ 1).blk, (ρ 1).off, none⟩) 1 vc] w fun e w' => ∃ val r h' ρ', e = .returned val ∧ (IsA (.sl 0 0 (l.length + 1)) [.arr 3 (insT l i m), .dead] r h' ∧ [Blk.arr 3 l, .arr 3 [m]].length ≤ h'.length) ∧ Fr ρ w ρ' w' ∧ Rep ρ' X w' h' ∧ RepV ρ' X w' r val ∧
    ∀ k, k < [Blk.arr 3 l, .arr 3 [m]].length → k ∉ [0, 1] → ρ' k = ρ k := by
  intro cs base c q0 e1 e2 e3 e4 e5
  subst e1
  refine (Tryz.ins_end_grow39 base l.length c (ρ 1).blk (ρ 1).off vc cs vs w e2 e3 (by omega) q0.1 hvl e4 e5 hvs h1v).mono ?_
  rintro e w' ⟨G, row, k1, k2, k3, k4, rfl, rfl⟩
  obtain ⟨r, h', ρ', p⟩ := fresh cs G (w.drew.alloc (.cells row 66)) row q0 (by omega) k2 k3 (hall row) (fun j v hj => k4 j v (by
   rw [yK (by rw [q0.1]; exact yE _), uF (by rw [q0.1]; exact yE _), yQ] at hj
   exact hj)) rfl rfl rfl (uG ..) (hold row)
  rw [hdl] at p
  exact ⟨_, r, h', ρ', rfl, p⟩
 obtain ⟨c, f1, f2, f3⟩ := h0
 rcases f3 with ⟨rfl, a, rfl⟩ | ⟨hre, rfl, hroom⟩
 ·have hl0 : l.length = 0 := by omega
  have hln : l = [] := vA.1 hl0
  have := hgrow [] a 0 ⟨by rw [hln]; rfl, fun r e he => by rw [hln] at he; simp at he⟩ (by omega) (by omega) (by omega) (fun _ => hl0) (fun a _ j v hj => by simp at hj)
  rw [hl0] at this ⊢
  exact this
 obtain ⟨c0, T0, cs, hcc, hcs, hlen, hcl0, hvals⟩ := arr_vals (hr.blk 0 _ rfl) hre
 have hsz : (ρ 0).sz = 3 := (hr.blk 0 _ rfl).1.1
 have hget := ins_get39 (i := i) hvals.1 hvl hi
 have hoff : (ρ 0).off + 0 * (ρ 0).sz = (ρ 0).off := by omega
 rw [hoff]
 have hcl : ∀ j v, cs[j]? = some v → w.cell? ⟨(ρ 0).blk, (ρ 0).off + j, none⟩ = some v := fun j v hj => by
  simp only [World.cell?, hcc]
  simpa using hcl0 j v hj
 have hlt := hr.lt 0 hre
 have hne : (ρ 1).blk ≠ (ρ 0).blk := hr.inj 1 0 (by decide) hre1 hre
 have hmx : c ≤ 9223372036854775807 := by unfold maxLen at f2; omega
 have hroom' : (ρ 0).off + c * 3 ≤ (ρ 0).room := by rw [hsz, uR] at hroom; exact hroom
 have hfr0 : ∀ j, w.frozen? ⟨(ρ 0).blk, j, none⟩ = false := fun j => by simp [World.frozen?, hcc]
 have hfr1 : ∀ j, w.frozen? ⟨(ρ 1).blk, j, none⟩ = false := fun j => by simp [World.frozen?, hcc1]
 have hspc : ∀ j, j < (ρ 0).room → (w.cell? ⟨(ρ 0).blk, j, none⟩).isSome = true := fun j hj => by
  simp only [World.cell?, hcc]
  rw [vI (by omega)]
  rfl
 have hone0 := oneV hvals
 by_cases hc1 : l.length + 1 ≤ c
 ·by_cases hil : i = l.length
  ·subst hil
   refine (Tryz.ins_end_room39 (ρ 0).blk (ρ 0).off l.length c (ρ 1).blk (ρ 1).off vc vs w hc1 hmx hvl (fun j hj => hspc _ (by omega)) (fun j hj => hfr0 _) hvs h1v).mono ?_
   rintro e w' ⟨rfl, rfl⟩
   obtain ⟨c', k1, k2, k3⟩ := Go.Fx.setCells_heap (ρ 0).blk vs ((ρ 0).off + l.length * 3) w c0 T0 (0, 0) hcc (by rw [hvl]; omega)
   have hrest := Go.Fx.setCells_rest (ρ 0).blk vs ((ρ 0).off + l.length * 3) w
   obtain ⟨r, h', ρ', p⟩ := ins_close39 (w' := w.setCells (ρ 0).blk ((ρ 0).off + l.length * 3) vs) (d := insT l l.length m) (cap := c) hr (ρ 0) hre hsz (ρ 0).blk rfl (.inl ⟨hre, rfl⟩) k1 (by omega) (by omega) (fun j v hj => by
     rw [hget j] at hj
     rw [k3, hvl]
     split at hj
     ·rename_i hlo
      rw [if_neg (by omega)]
      refine hcl0 j v ?_
      rw [yT hlo] at hj
      exact hj
     ·split at hj
      ·rw [if_pos (by omega), show (ρ 0).off + j - ((ρ 0).off + l.length * 3) = j - l.length * 3 by omega]
       exact hj
      ·rw [uF (by rw [hvals.1]; exact yE _)] at hj
       simp at hj) (hnew hvals) hrest.1 hrest.2.1 hrest.2.2 (by rw [Go.Fx.setCells_size]; exact yE _) (by rw [Go.Fx.setCells_size]; exact hlt) (fun b _ hb => Go.Fx.setCells_other _ _ _ _ _ hb) (by omega) f2 hroom'
   rw [hdl] at p
   exact ⟨_, r, h', ρ', rfl, p⟩
  ·have hi' : i < l.length := by omega
   refine (Tryz.ins_shift39 (ρ 0).blk (ρ 0).off l.length c i (ρ 1).blk (ρ 1).off vc cs vs w hi' hc1 hmx hne hvals.1 hvl hcl (fun j hj => hspc _ (by omega)) (fun j hj => hfr0 _) hvs hone0 h1v T1 T0 c1.size c0.size (by simp [World.shape?, hcc1]) (by simp [World.shape?, hcc]) (by omega) (hfr1 _) (hfr1 _)).mono ?_
   rintro e w' ⟨rfl, rfl⟩
   have hdlen : (cs.drop (i * 3)).length = (l.length - i) * 3 := by rw [yG, hvals.1]; omega
   obtain ⟨c', k1, k2, k3⟩ := Go.Fx.setCells_heap (ρ 0).blk (cs.drop (i * 3)) ((ρ 0).off + (i + 1) * 3) w.drew c0 T0 (0, 0) hcc (by rw [hdlen]; omega)
   obtain ⟨c2, q1, q2, q3⟩ := Go.Fx.setCells_heap (ρ 0).blk vs ((ρ 0).off + i * 3) _ c' T0 (0, 0) k1 (by rw [hvl]; omega)
   have hrest := Go.Fx.setCells_rest (ρ 0).blk (cs.drop (i * 3)) ((ρ 0).off + (i + 1) * 3) w.drew
   have hrest2 := Go.Fx.setCells_rest (ρ 0).blk vs ((ρ 0).off + i * 3) (w.drew.setCells (ρ 0).blk ((ρ 0).off + (i + 1) * 3) (cs.drop (i * 3)))
   have hsize : ((w.drew.setCells (ρ 0).blk ((ρ 0).off + (i + 1) * 3) (cs.drop (i * 3))).setCells (ρ 0).blk ((ρ 0).off + i * 3) vs).heap.size = w.heap.size := by
    rw [Go.Fx.setCells_size, Go.Fx.setCells_size]; rfl
   obtain ⟨r, h', ρ', p⟩ := ins_close39 (w' := (w.drew.setCells (ρ 0).blk ((ρ 0).off + (i + 1) * 3) (cs.drop (i * 3))).setCells (ρ 0).blk ((ρ 0).off + i * 3) vs) (d := insT l i m) (cap := c) hr (ρ 0) hre hsz (ρ 0).blk rfl (.inl ⟨hre, rfl⟩) q1 (by omega) (by omega) (fun j v hj => by
     rw [hget j] at hj
     rw [q3, hvl, k3, hdlen]
     split at hj
     ·rename_i hlo
      rw [if_neg (by omega), if_neg (by omega)]
      refine hcl0 j v ?_
      rw [yT hlo] at hj
      exact hj
     ·split at hj
      ·rw [if_pos (by omega), show (ρ 0).off + j - ((ρ 0).off + i * 3) = j - i * 3 by omega]
       exact hj
      ·have := (yF.1 hj).1
       rw [hdlen] at this
       rw [if_neg (by omega), if_pos (by omega), show (ρ 0).off + j - ((ρ 0).off + (i + 1) * 3) = j - (i + 1) * 3 by omega]
       exact hj) (hnew hvals) (hrest2.1.trans hrest.1) (hrest2.2.1.trans hrest.2.1) (hrest2.2.2.trans hrest.2.2) (by omega) (by omega) (fun b _ hb => by rw [Go.Fx.setCells_other _ _ _ _ _ hb, Go.Fx.setCells_other _ _ _ _ _ hb]; rfl) (by omega) f2 hroom'
   rw [hdl] at p
   exact ⟨_, r, h', ρ', rfl, p⟩
 ·have hcn : c = l.length := by omega
  by_cases hil : i = l.length
  ·exact hgrow cs (some ⟨(ρ 0).blk, (ρ 0).off, none⟩) c hvals hil f1 (by omega) (fun h => by cases h) (fun a ha j v hj => by cases ha; rw [Addr.add_lit]; exact hcl j v hj)
  ·have hi' : i < l.length := by omega
   refine (Tryz.ins_grow39 (ρ 0).blk (ρ 0).off l.length c i (ρ 1).blk (ρ 1).off vc cs vs w hi' f1 (by omega) (by omega) hvals.1 hvl hcl hvs hone0 h1v).mono ?_
   rintro e w' ⟨G, row, k1, k2, k3, k4, rfl, rfl⟩
   have hdlen : (cs.drop (i * 3)).length = (l.length - i) * 3 := by rw [yG, hvals.1]; omega
   obtain ⟨c', j1, j2, j3⟩ := Go.Fx.setCells_heap w.heap.size vs (i * 3) (w.alloc (.cells row 66)).drew row 66 (0, 0) (hall row) (by rw [hvl]; omega)
   obtain ⟨c2, q1, q2, q3⟩ := Go.Fx.setCells_heap w.heap.size (cs.drop (i * 3)) ((i + 1) * 3) ((w.alloc (.cells row 66)).drew.setCells w.heap.size (i * 3) vs).drew c' 66 (0, 0) j1 (by rw [hdlen]; omega)
   have hrest := Go.Fx.setCells_rest w.heap.size vs (i * 3) (w.alloc (.cells row 66)).drew
   have hrest2 := Go.Fx.setCells_rest w.heap.size (cs.drop (i * 3)) ((i + 1) * 3) ((w.alloc (.cells row 66)).drew.setCells w.heap.size (i * 3) vs).drew
   have hsize : (((w.alloc (.cells row 66)).drew.setCells w.heap.size (i * 3) vs).drew.setCells w.heap.size ((i + 1) * 3) (cs.drop (i * 3))).heap.size = w.heap.size + 1 := by
    rw [Go.Fx.setCells_size]
    show ((w.alloc (.cells row 66)).drew.setCells w.heap.size (i * 3) vs).heap.size = _
    rw [Go.Fx.setCells_size]
    exact uG ..
   obtain ⟨r, h', ρ', p⟩ := fresh cs G (((w.alloc (.cells row 66)).drew.setCells w.heap.size (i * 3) vs).drew.setCells w.heap.size ((i + 1) * 3) (cs.drop (i * 3))) c2 hvals (by omega) k2 (by omega) q1 (fun j v hj => by
     rw [hget j] at hj
     rw [q3, hdlen, j3, hvl]
     split at hj
     ·rename_i hlo
      rw [if_neg (by omega), if_neg (by omega)]
      exact k4 j v hj
     ·split at hj
      ·rw [if_neg (by omega), if_pos (by omega)]
       exact hj
      ·have := (yF.1 hj).1
       rw [hdlen] at this
       rw [if_pos (by omega)]
       exact hj) (hrest2.1.trans hrest.1) (hrest2.2.1.trans hrest.2.1) (hrest2.2.2.trans hrest.2.2) hsize (fun b hb => by
     rw [Go.Fx.setCells_other _ _ _ _ _ (by omega)]
     show ((w.alloc (.cells row 66)).drew.setCells w.heap.size (i * 3) vs).heap[b]? = _
     rw [Go.Fx.setCells_other _ _ _ _ _ (by omega)]
     exact hold row b hb)
   rw [hdl] at p
   exact ⟨_, r, h', ρ', rfl, p⟩
theorem ins_get45 {cs vs : List Value} {n i : Nat} (hcl : cs.length = n * 2) (hvl : vs.length = 2) (hi : i ≤ n) (j : Nat) : (cs.take (i * 2) ++ vs ++ cs.drop (i * 2))[j]? = if j < i * 2 then (cs.take (i * 2))[j]? else if j < (i + 1) * 2 then vs[j - i * 2]? else (cs.drop (i * 2))[j - (i + 1) * 2]? := by
 have e1 : (cs.take (i * 2)).length = i * 2 := by rw [yL]; omega
 by_cases h1 : j < i * 2
 ·rw [if_pos h1, yZ, vE (by omega)]
 ·rw [if_neg h1, yZ, yY (by omega), e1]
  by_cases h2 : j < (i + 1) * 2
  ·rw [if_pos h2, vE (by omega)]
  ·rw [if_neg h2, yY (by omega), hvl, show j - i * 2 - 2 = j - (i + 1) * 2 by omega]
theorem ins_close45 {ρ : Nat → Loc} {X : Nat → Prop} {w w' : World} {l d : List (List V)} {m : List V} {ds : List Value} (hr : Rep ρ X w [.arr 2 l, .arr 2 [m]]) (L : Loc) (h1 : L.real = true) (h2 : L.sz = 2) (B : Nat) (hB : L.blk = B) (hB2 : (ρ 0).real = true ∧ B = (ρ 0).blk ∨ B = w.heap.size)
  {c : Array Value} {T : TypeId} (hc : w'.heap[B]? = some (.cells c T (0, 0))) (hcs : c.size = L.room) (hlen : L.off + d.length * 2 ≤ L.room) (hd : ∀ j v, ds[j]? = some v → c[L.off + j]? = some v) (hv : Vals (RepD (Sta ρ X w) w) 2 d ds)
  (hos : w'.os = w.os) (htp : w'.tape = w.tape) (hou : w'.output = w.output) (hsz : w.heap.size ≤ w'.heap.size) (hlt : B < w'.heap.size) (hkeep : ∀ b, b < w.heap.size → b ≠ B → w'.heap[b]? = w.heap[b]?)
  {cap : Nat} (hc1 : d.length ≤ cap) (hc2 : cap ≤ maxLen) (hc3 : L.off + cap * 2 ≤ L.room) :
  ∃ r h' ρ', (IsA (.sl 0 0 d.length) [.arr 2 d, .dead] r h' ∧ [Blk.arr 2 l, .arr 2 [m]].length ≤ h'.length) ∧ Fr ρ w ρ' w' ∧ Rep ρ' X w' h' ∧ RepV ρ' X w' r (.slice (some ⟨B, L.off, none⟩) d.length cap) ∧
   ∀ k, k < [Blk.arr 2 l, .arr 2 [m]].length → k ∉ [0, 1] → ρ' k = ρ k := by
 have hloc : ∀ k, ((if k = 0 then L else if k = 1 then { ρ 1 with real := false } else ρ k : Loc)).real = true → k = 0 := by
  intro k hk
  by_cases e : k = 0
  ·exact e
  ·rw [if_neg e] at hk
   by_cases e1 : k = 1
   ·rw [if_pos e1] at hk; cases hk
   ·rw [if_neg e1, hr.out k (by simp; omega)] at hk; cases hk
 have hfr : Fr ρ w (fun k => if k = 0 then L else if k = 1 then { ρ 1 with real := false } else ρ k) w' := by
  refine ⟨hos, htp, hou, hsz, fun b hb ho => ?_⟩
  have hbB : b ≠ B := by
   rintro rfl
   rcases hB2 with ⟨e1, e2⟩ | e
   ·exact ho ⟨0, e1, e2.symm⟩
   ·omega
  refine ⟨hkeep b hb hbB, ?_⟩
  rintro ⟨k, hk, hb2⟩
  have := hloc k hk
  subst this
  simp only [if_pos] at hb2
  exact hbB (hb2.symm.trans hB)
 refine ⟨.sl 0 0 d.length, [.arr 2 d, .dead], fun k => if k = 0 then L else if k = 1 then { ρ 1 with real := false } else ρ k, ⟨⟨rfl, rfl⟩, by simp⟩, hfr, ⟨fun j k hjk h1 h2 => ?_, fun k hk => ?_, fun k b hb => ?_, ?_, fun k h => ?_, fun b hb => vS (hr.xlt b hb) hsz⟩, ⟨cap, hc1, hc2, .inr ⟨h1, by simp [hB], by simp [h2, hc3]⟩⟩, fun k hk hn => ?_⟩
 ·exact absurd ((hloc j h1).trans (hloc k h2).symm) hjk
 ·have hk0 : k ≠ 0 := by simp at hk; omega
  have hk1 : k ≠ 1 := by simp at hk; omega
  simp only [if_neg hk0, if_neg hk1]
  exact hr.out k (by simp at hk ⊢; omega)
 ·match k, hb with
  | 0, hb =>
   simp only [uQ, vJ] at hb
   subst hb
   exact arr_of (cs := ds) ⟨by simp [h2], by decide⟩ (by simp [h1]) (c := c) (T := T) (by simp [hB, hc]) (by simp [hcs]) (by simpa using hlen) (by simpa using hd) (hv.mono fun x u h => RepD_mono hfr.sta x u h)
  | 1, hb =>
   simp at hb
   subst hb
   rfl
  | k + 2, hb => simp at hb
 ·rintro b ⟨k, hk, hb2⟩ hX
  have := hloc k hk
  subst this
  simp only [if_pos] at hb2
  rw [hB] at hb2
  subst hb2
  rcases hB2 with ⟨e1, e2⟩ | e
  ·exact hr.disj _ ⟨0, e1, e2.symm⟩ hX
  ·have := hr.xlt _ hX
   omega
 ·have := hloc k h
  subst this
  simp only [if_pos, hB]
  exact hlt
 ·simp at hk hn
  omega
set_option maxHeartbeats 1000000 in
theorem ok45 (l : List (List V)) (i : Nat) (m : List V) (hi : i ≤ l.length) (hn : l.length ≤ 1000000000000) :
  OkN Tryz.prog 45 [.sl 0 0 l.length, .i i, .sl 1 0 1] [.arr 2 l, .arr 2 [m]] [0, 1] (IsA (.sl 0 0 (l.length + 1)) [.arr 2 (insT l i m), .dead]) := by
 refine ⟨cal Tryz.func45 (by kernel_rfl) (by kernel_rfl), ?_⟩
 intro ρ X w vals hr ha
 match vals, ha with
 | [v0, v1, v2], ⟨h0, h1, h2, _⟩ =>
 have h1' : v1 = .int .i64 i := h1
 subst h1'
 have hdl : (insT l i m).length = l.length + 1 := insT_len
 obtain ⟨vc, g1, g2, g3⟩ := h2
 rcases g3 with ⟨g4, _⟩ | ⟨hre1, rfl, hroom1⟩
 ·omega
 obtain ⟨c1, T1, vs, hcc1, hcs1, hlen1, hcell1, hvv⟩ := arr_vals (hr.blk 1 _ rfl) hre1
 have hoff1 : (ρ 1).off + 0 * (ρ 1).sz = (ρ 1).off := by omega
 rw [hoff1]
 have hvl : vs.length = 2 := by rw [hvv.1]; rfl
 have hvs : ∀ j v, vs[j]? = some v → w.cell? ⟨(ρ 1).blk, (ρ 1).off + j, none⟩ = some v := fun j v hj => by
  simp only [World.cell?, hcc1]
  simpa using hcell1 j v hj
 have oneV : ∀ {els : List (List V)} {cs : List Value}, Vals (RepD (Sta ρ X w) w) 2 els cs → ∀ v ∈ cs, v.oneCell' = true := by
  intro els cs hv v hm
  obtain ⟨j, hj, rfl⟩ := yJ hm
  have hj2 : j < els.length * 2 := by rw [← hv.1]; exact hj
  have hr1 : j / 2 < els.length := by omega
  obtain ⟨q1, q2⟩ := hv.2 _ _ (yH hr1)
  have hf : j % 2 < (els[j / 2]).length := by rw [q1]; omega
  obtain ⟨u, q3, q4⟩ := q2 _ _ (yH hf)
  rw [show j / 2 * 2 + j % 2 = j by omega, yH hj] at q3
  simp only [vJ] at q3
  subst q3
  exact RepD_one q4
 have h1v : ∀ v ∈ vs, v.oneCell' = true := oneV hvv
 have hlt1 := hr.lt 1 hre1
 have hnew : ∀ {cs : List Value}, Vals (RepD (Sta ρ X w) w) 2 l cs → Vals (RepD (Sta ρ X w) w) 2 (insT l i m) (cs.take (i * 2) ++ vs ++ cs.drop (i * 2)) := fun {cs} h => by
  have := ((h.take hi).app hvv).app (h.drop i)
  unfold insT
  simpa using this
 -- a new row
 have fresh : ∀ (cs : List Value) (cap : Nat) (w' : World) (c : Array Value), Vals (RepD (Sta ρ X w) w) 2 l cs → l.length + 1 ≤ cap → cap ≤ 9223372036854775807 → c.size = cap * 2 →
   w'.heap[w.heap.size]? = some (.cells c 85 (0, 0)) → (∀ (j : Nat) (v : Value), (cs.take (i * 2) ++ vs ++ cs.drop (i * 2))[j]? = some v → c[j]? = some v) → w'.os = w.os → w'.tape = w.tape → w'.output = w.output → w'.heap.size = w.heap.size + 1 → (∀ b, b < w.heap.size → w'.heap[b]? = w.heap[b]?) →
   ∃ r h' ρ', (IsA (.sl 0 0 (insT l i m).length) [.arr 2 (insT l i m), .dead] r h' ∧ [Blk.arr 2 l, .arr 2 [m]].length ≤ h'.length) ∧ Fr ρ w ρ' w' ∧ Rep ρ' X w' h' ∧ RepV ρ' X w' r (.slice (some ⟨w.heap.size, 0, none⟩) (insT l i m).length cap) ∧
    ∀ k, k < [Blk.arr 2 l, .arr 2 [m]].length → k ∉ [0, 1] → ρ' k = ρ k := by
  intro cs cap w' c q0 q1 q2 q3 q4 q5 q6 q7 q8 q9 q10
  exact ins_close45 hr { ρ 0 with real := true, blk := w.heap.size, off := 0, sz := 2, room := cap * 2 } rfl rfl w.heap.size rfl (.inr rfl) q4 (by simpa using q3) (by simp; omega) (by simpa using q5) (hnew q0) q6 q7 q8 (by omega) (by omega) (fun b hb _ => q10 b hb) (by omega) (by unfold maxLen; omega) (by simp)
 have hall : ∀ (row : Array Value), (w.drew.alloc (.cells row 85)).heap[w.heap.size]? = some (.cells row 85 (0, 0)) := fun row => by
  simp only [World.alloc, World.drew]
  simp
 have hold : ∀ (row : Array Value) b, b < w.heap.size → (w.drew.alloc (.cells row 85)).heap[b]? = w.heap[b]? := by
  intro row b hb
  simp only [World.alloc, World.drew]
  rw [uW (by simpa using hb), vI (by simpa using hb)]
 have hgrow : ∀ (cs : List Value) (base : Option Addr) (c : Nat), Vals (RepD (Sta ρ X w) w) 2 l cs → i = l.length → l.length ≤ c → c < l.length + 1 → (base = none → l.length = 0) → (∀ a, base = some a → ∀ j v, cs[j]? = some v → w.cell? (a.add j) = some v) →
   Calls Tryz.prog 45 #[.slice base l.length c, .int .i64 i, .slice (some ⟨(ρ 1).blk, (ρ 1).off, none⟩) 1 vc] w fun e w' => ∃ val r h' ρ', e = .returned val ∧ (IsA (.sl 0 0 (l.length + 1)) [.arr 2 (insT l i m), .dead] r h' ∧ [Blk.arr 2 l, .arr 2 [m]].length ≤ h'.length) ∧ Fr ρ w ρ' w' ∧ Rep ρ' X w' h' ∧ RepV ρ' X w' r val ∧
    ∀ k, k < [Blk.arr 2 l, .arr 2 [m]].length → k ∉ [0, 1] → ρ' k = ρ k := by
  intro cs base c q0 e1 e2 e3 e4 e5
  subst e1
  refine (Tryz.ins_end_grow45 base l.length c (ρ 1).blk (ρ 1).off vc cs vs w e2 e3 (by omega) q0.1 hvl e4 e5 hvs h1v).mono ?_
  rintro e w' ⟨G, row, k1, k2, k3, k4, rfl, rfl⟩
  obtain ⟨r, h', ρ', p⟩ := fresh cs G (w.drew.alloc (.cells row 85)) row q0 (by omega) k2 k3 (hall row) (fun j v hj => k4 j v (by
   rw [yK (by rw [q0.1]; exact yE _), uF (by rw [q0.1]; exact yE _), yQ] at hj
   exact hj)) rfl rfl rfl (uG ..) (hold row)
  rw [hdl] at p
  exact ⟨_, r, h', ρ', rfl, p⟩
 obtain ⟨c, f1, f2, f3⟩ := h0
 rcases f3 with ⟨rfl, a, rfl⟩ | ⟨hre, rfl, hroom⟩
 ·have hl0 : l.length = 0 := by omega
  have hln : l = [] := vA.1 hl0
  have := hgrow [] a 0 ⟨by rw [hln]; rfl, fun r e he => by rw [hln] at he; simp at he⟩ (by omega) (by omega) (by omega) (fun _ => hl0) (fun a _ j v hj => by simp at hj)
  rw [hl0] at this ⊢
  exact this
 obtain ⟨c0, T0, cs, hcc, hcs, hlen, hcl0, hvals⟩ := arr_vals (hr.blk 0 _ rfl) hre
 have hsz : (ρ 0).sz = 2 := (hr.blk 0 _ rfl).1.1
 have hget := ins_get45 (i := i) hvals.1 hvl hi
 have hoff : (ρ 0).off + 0 * (ρ 0).sz = (ρ 0).off := by omega
 rw [hoff]
 have hcl : ∀ j v, cs[j]? = some v → w.cell? ⟨(ρ 0).blk, (ρ 0).off + j, none⟩ = some v := fun j v hj => by
  simp only [World.cell?, hcc]
  simpa using hcl0 j v hj
 have hlt := hr.lt 0 hre
 have hne : (ρ 1).blk ≠ (ρ 0).blk := hr.inj 1 0 (by decide) hre1 hre
 have hmx : c ≤ 9223372036854775807 := by unfold maxLen at f2; omega
 have hroom' : (ρ 0).off + c * 2 ≤ (ρ 0).room := by rw [hsz, uR] at hroom; exact hroom
 have hfr0 : ∀ j, w.frozen? ⟨(ρ 0).blk, j, none⟩ = false := fun j => by simp [World.frozen?, hcc]
 have hfr1 : ∀ j, w.frozen? ⟨(ρ 1).blk, j, none⟩ = false := fun j => by simp [World.frozen?, hcc1]
 have hspc : ∀ j, j < (ρ 0).room → (w.cell? ⟨(ρ 0).blk, j, none⟩).isSome = true := fun j hj => by
  simp only [World.cell?, hcc]
  rw [vI (by omega)]
  rfl
 have hone0 := oneV hvals
 by_cases hc1 : l.length + 1 ≤ c
 ·by_cases hil : i = l.length
  ·subst hil
   refine (Tryz.ins_end_room45 (ρ 0).blk (ρ 0).off l.length c (ρ 1).blk (ρ 1).off vc vs w hc1 hmx hvl (fun j hj => hspc _ (by omega)) (fun j hj => hfr0 _) hvs h1v).mono ?_
   rintro e w' ⟨rfl, rfl⟩
   obtain ⟨c', k1, k2, k3⟩ := Go.Fx.setCells_heap (ρ 0).blk vs ((ρ 0).off + l.length * 2) w c0 T0 (0, 0) hcc (by rw [hvl]; omega)
   have hrest := Go.Fx.setCells_rest (ρ 0).blk vs ((ρ 0).off + l.length * 2) w
   obtain ⟨r, h', ρ', p⟩ := ins_close45 (w' := w.setCells (ρ 0).blk ((ρ 0).off + l.length * 2) vs) (d := insT l l.length m) (cap := c) hr (ρ 0) hre hsz (ρ 0).blk rfl (.inl ⟨hre, rfl⟩) k1 (by omega) (by omega) (fun j v hj => by
     rw [hget j] at hj
     rw [k3, hvl]
     split at hj
     ·rename_i hlo
      rw [if_neg (by omega)]
      refine hcl0 j v ?_
      rw [yT hlo] at hj
      exact hj
     ·split at hj
      ·rw [if_pos (by omega), show (ρ 0).off + j - ((ρ 0).off + l.length * 2) = j - l.length * 2 by omega]
       exact hj
      ·rw [uF (by rw [hvals.1]; exact yE _)] at hj
       simp at hj) (hnew hvals) hrest.1 hrest.2.1 hrest.2.2 (by rw [Go.Fx.setCells_size]; exact yE _) (by rw [Go.Fx.setCells_size]; exact hlt) (fun b _ hb => Go.Fx.setCells_other _ _ _ _ _ hb) (by omega) f2 hroom'
   rw [hdl] at p
   exact ⟨_, r, h', ρ', rfl, p⟩
  ·have hi' : i < l.length := by omega
   refine (Tryz.ins_shift45 (ρ 0).blk (ρ 0).off l.length c i (ρ 1).blk (ρ 1).off vc cs vs w hi' hc1 hmx hne hvals.1 hvl hcl (fun j hj => hspc _ (by omega)) (fun j hj => hfr0 _) hvs hone0 h1v T1 T0 c1.size c0.size (by simp [World.shape?, hcc1]) (by simp [World.shape?, hcc]) (by omega) (hfr1 _) (hfr1 _)).mono ?_
   rintro e w' ⟨rfl, rfl⟩
   have hdlen : (cs.drop (i * 2)).length = (l.length - i) * 2 := by rw [yG, hvals.1]; omega
   obtain ⟨c', k1, k2, k3⟩ := Go.Fx.setCells_heap (ρ 0).blk (cs.drop (i * 2)) ((ρ 0).off + (i + 1) * 2) w.drew c0 T0 (0, 0) hcc (by rw [hdlen]; omega)
   obtain ⟨c2, q1, q2, q3⟩ := Go.Fx.setCells_heap (ρ 0).blk vs ((ρ 0).off + i * 2) _ c' T0 (0, 0) k1 (by rw [hvl]; omega)
   have hrest := Go.Fx.setCells_rest (ρ 0).blk (cs.drop (i * 2)) ((ρ 0).off + (i + 1) * 2) w.drew
   have hrest2 := Go.Fx.setCells_rest (ρ 0).blk vs ((ρ 0).off + i * 2) (w.drew.setCells (ρ 0).blk ((ρ 0).off + (i + 1) * 2) (cs.drop (i * 2)))
   have hsize : ((w.drew.setCells (ρ 0).blk ((ρ 0).off + (i + 1) * 2) (cs.drop (i * 2))).setCells (ρ 0).blk ((ρ 0).off + i * 2) vs).heap.size = w.heap.size := by
    rw [Go.Fx.setCells_size, Go.Fx.setCells_size]; rfl
   obtain ⟨r, h', ρ', p⟩ := ins_close45 (w' := (w.drew.setCells (ρ 0).blk ((ρ 0).off + (i + 1) * 2) (cs.drop (i * 2))).setCells (ρ 0).blk ((ρ 0).off + i * 2) vs) (d := insT l i m) (cap := c) hr (ρ 0) hre hsz (ρ 0).blk rfl (.inl ⟨hre, rfl⟩) q1 (by omega) (by omega) (fun j v hj => by
     rw [hget j] at hj
     rw [q3, hvl, k3, hdlen]
     split at hj
     ·rename_i hlo
      rw [if_neg (by omega), if_neg (by omega)]
      refine hcl0 j v ?_
      rw [yT hlo] at hj
      exact hj
     ·split at hj
      ·rw [if_pos (by omega), show (ρ 0).off + j - ((ρ 0).off + i * 2) = j - i * 2 by omega]
       exact hj
      ·have := (yF.1 hj).1
       rw [hdlen] at this
       rw [if_neg (by omega), if_pos (by omega), show (ρ 0).off + j - ((ρ 0).off + (i + 1) * 2) = j - (i + 1) * 2 by omega]
       exact hj) (hnew hvals) (hrest2.1.trans hrest.1) (hrest2.2.1.trans hrest.2.1) (hrest2.2.2.trans hrest.2.2) (by omega) (by omega) (fun b _ hb => by rw [Go.Fx.setCells_other _ _ _ _ _ hb, Go.Fx.setCells_other _ _ _ _ _ hb]; rfl) (by omega) f2 hroom'
   rw [hdl] at p
   exact ⟨_, r, h', ρ', rfl, p⟩
 ·have hcn : c = l.length := by omega
  by_cases hil : i = l.length
  ·exact hgrow cs (some ⟨(ρ 0).blk, (ρ 0).off, none⟩) c hvals hil f1 (by omega) (fun h => by cases h) (fun a ha j v hj => by cases ha; rw [Addr.add_lit]; exact hcl j v hj)
  ·have hi' : i < l.length := by omega
   refine (Tryz.ins_grow45 (ρ 0).blk (ρ 0).off l.length c i (ρ 1).blk (ρ 1).off vc cs vs w hi' f1 (by omega) (by omega) hvals.1 hvl hcl hvs hone0 h1v).mono ?_
   rintro e w' ⟨G, row, k1, k2, k3, k4, rfl, rfl⟩
   have hdlen : (cs.drop (i * 2)).length = (l.length - i) * 2 := by rw [yG, hvals.1]; omega
   obtain ⟨c', j1, j2, j3⟩ := Go.Fx.setCells_heap w.heap.size vs (i * 2) (w.alloc (.cells row 85)).drew row 85 (0, 0) (hall row) (by rw [hvl]; omega)
   obtain ⟨c2, q1, q2, q3⟩ := Go.Fx.setCells_heap w.heap.size (cs.drop (i * 2)) ((i + 1) * 2) ((w.alloc (.cells row 85)).drew.setCells w.heap.size (i * 2) vs).drew c' 85 (0, 0) j1 (by rw [hdlen]; omega)
   have hrest := Go.Fx.setCells_rest w.heap.size vs (i * 2) (w.alloc (.cells row 85)).drew
   have hrest2 := Go.Fx.setCells_rest w.heap.size (cs.drop (i * 2)) ((i + 1) * 2) ((w.alloc (.cells row 85)).drew.setCells w.heap.size (i * 2) vs).drew
   have hsize : (((w.alloc (.cells row 85)).drew.setCells w.heap.size (i * 2) vs).drew.setCells w.heap.size ((i + 1) * 2) (cs.drop (i * 2))).heap.size = w.heap.size + 1 := by
    rw [Go.Fx.setCells_size]
    show ((w.alloc (.cells row 85)).drew.setCells w.heap.size (i * 2) vs).heap.size = _
    rw [Go.Fx.setCells_size]
    exact uG ..
   obtain ⟨r, h', ρ', p⟩ := fresh cs G (((w.alloc (.cells row 85)).drew.setCells w.heap.size (i * 2) vs).drew.setCells w.heap.size ((i + 1) * 2) (cs.drop (i * 2))) c2 hvals (by omega) k2 (by omega) q1 (fun j v hj => by
     rw [hget j] at hj
     rw [q3, hdlen, j3, hvl]
     split at hj
     ·rename_i hlo
      rw [if_neg (by omega), if_neg (by omega)]
      exact k4 j v hj
     ·split at hj
      ·rw [if_neg (by omega), if_pos (by omega)]
       exact hj
      ·have := (yF.1 hj).1
       rw [hdlen] at this
       rw [if_pos (by omega)]
       exact hj) (hrest2.1.trans hrest.1) (hrest2.2.1.trans hrest.2.1) (hrest2.2.2.trans hrest.2.2) hsize (fun b hb => by
     rw [Go.Fx.setCells_other _ _ _ _ _ (by omega)]
     show ((w.alloc (.cells row 85)).drew.setCells w.heap.size (i * 2) vs).heap[b]? = _
     rw [Go.Fx.setCells_other _ _ _ _ _ (by omega)]
     exact hold row b hb)
   rw [hdl] at p
   exact ⟨_, r, h', ρ', rfl, p⟩
end Go.Fx.J
namespace Go.Proofs
open Go Go.Shelf Go.RowKit Go.Lib
theorem run_clear_k {P : Program} (w : World) (t e ty : TypeId) (z : Value) (S n : Nat) (ht : P.underlying t = some (.slice e)) (hv : ∀ w, (zeroValue e).run P w = .ok z w) (hz : z.cells.size = S) (h1 : ∀ v ∈ (Builtin.zeroCells z.cells n).toList, v.oneCell' = true) (b o c : Nat) (hn : 0 < n)
  (hc : ∀ j, j < n * S → (w.cell? ⟨b, o + j, none⟩).isSome = true) (hf : ∀ j, j < n * S → w.frozen? ⟨b, o + j, none⟩ = false) :
  (Builtin.clear_ #[t] ty #[.slice (some ⟨b, o, none⟩) n c]).run P w = .ok (.tuple #[]) (w.setCells b o (Builtin.zeroCells z.cells n).toList) := by
 have hl : (Builtin.zeroCells z.cells n).toList.length = n * S := by
  rw [uO]
  subst hz
  simp [Builtin.zeroCells]
 have hst := run_storeCells_cells (P := P) b o (Builtin.zeroCells z.cells n).toList 0 w (by rw [hl]; simpa using hc) (by rw [hl]; simpa using hf) h1
 simp only [Nat.add_zero] at hst
 obtain ⟨m, rfl⟩ : ∃ m, n = m + 1 := ⟨n - 1, by omega⟩
 simp [Builtin.clear_, run_underlying ht, hv, hst]
set_option maxHeartbeats 4000000 in
set_option maxRecDepth 1000000 in
theorem Tryz.del52 (b off n c i : Nat) (cs : List Value) (w : World) (hi : i < n) (hroom : n ≤ c) (hc63 : c ≤ 9223372036854775807) (hcl : cs.length = n * 2)
  (hcs : ∀ j v, cs[j]? = some v → w.cell? ⟨b, off + j, none⟩ = some v) (hfz : ∀ j, j < n * 2 → w.frozen? ⟨b, off + j, none⟩ = false) (h1c : ∀ v ∈ cs.drop ((i + 1) * 2), v.oneCell' = true) :
  Calls Tryz.prog 52 #[.slice (some ⟨b, off, none⟩) n c, .int .i64 i, .int .i64 ((i : Int) + 1)] w fun e w' =>
   e = .returned (.slice (some ⟨b, off, none⟩) (n - 1) c) ∧ w' = (w.drew.setCells b (off + i * 2) (cs.drop ((i + 1) * 2))).setCells b (off + (n - 1) * 2) (Builtin.zeroCells (.agg #[.int .i64 0, .slice none 0 0] : Value).cells 1).toList := by
 have mixed : Tryz.prog.follows .mixedOrders = true := by kernel_rfl
 have hi0 : Tryz.prog.info? 85 = some Tryz.t85 := by kernel_rfl
 have hs0 : Tryz.t85.size = 2 := by kernel_rfl
 have hz0 : ∀ w, (zeroValue 85).run Tryz.prog w = .ok (.agg #[.int .i64 0, .slice none 0 0]) w := fun w => by
  have : Tryz.t85.zero = some (.agg #[.int .i64 0, .slice none 0 0]) := by kernel_rfl
  simp [zeroValue, typeInfo, hi0, this]
 have hisS : ∀ j, j < n * 2 → (w.cell? ⟨b, off + j, none⟩).isSome = true := fun j hj => by
  rw [hcs j _ (yH (by omega))]; rfl
 obtain ⟨news, hnews⟩ : ∃ news, news = cs.drop ((i + 1) * 2) := ⟨_, rfl⟩
 have hlen : news.length = (n - (i + 1)) * 2 := by rw [hnews, yG, hcl]; omega
 obtain ⟨A, hA, hsrc⟩ : ∃ A : Addr, (if c = i + 1 then some (⟨b, off, none⟩ : Addr) else some ⟨b, off + (i + 1) * 2, none⟩) = some A ∧ Hid (∀ t u, news[t]? = some u → w.drew.cell? (A.add t) = some u) := by
  by_cases h : c = i + 1
  ·refine ⟨⟨b, off, none⟩, by simp [h], fun t u hu => ?_⟩
   have h0 : news.length = 0 := by rw [hlen]; omega
   rw [vA.1 h0] at hu
   simp at hu
  ·refine ⟨⟨b, off + (i + 1) * 2, none⟩, by simp [h], fun t u hu => ?_⟩
   rw [hnews, yM] at hu
   rw [Addr.add_lit, yB]
   exact hcs _ _ hu
 have s1 : Hid (news.length = (n - (i + 1)) * 2) := hlen
 have s2 : Hid (∀ u ∈ news, u.oneCell' = true) := fun u hu => h1c u (by rw [hnews] at hu; exact hu)
 have s3 : Hid (∀ t, t < news.length → (w.drew.cell? ⟨b, off + i * 2 + t, none⟩).isSome = true ∧ w.drew.frozen? ⟨b, off + i * 2 + t, none⟩ = false) := by
  intro t ht
  rw [hlen] at ht
  rw [yB]
  exact ⟨hisS _ (by omega), hfz _ (by omega)⟩
 obtain ⟨W1, hW1⟩ : ∃ W1, W1 = w.drew.setCells b (off + i * 2) news := ⟨_, rfl⟩
 have hcl1 : ∀ ty, (Builtin.clear_ #[64] ty #[.slice (some ⟨b, off + (n - 1) * 2, none⟩) (n - (n - 1)) (c - (n - 1))]).run Tryz.prog W1 = .ok (.tuple #[]) (W1.setCells b (off + (n - 1) * 2) (Builtin.zeroCells (.agg #[.int .i64 0, .slice none 0 0] : Value).cells 1).toList) := fun ty => by
  rw [show n - (n - 1) = 1 by omega]
  exact run_clear_k W1 64 85 ty (.agg #[.int .i64 0, .slice none 0 0]) 2 1 Tryz.underlying64 hz0 rfl (by intro v hv; rw [show (Builtin.zeroCells (.agg #[.int .i64 0, .slice none 0 0] : Value).cells 1).toList = [.int .i64 0, .slice none 0 0] from by simp [Builtin.zeroCells, Value.cells]; rfl] at hv; simp at hv; rcases hv with rfl | rfl <;> rfl) b (off + (n - 1) * 2) _ (by omega)
   (fun t ht => by rw [hW1, yB]; exact isSome_setCells b _ _ _ (fun q hq => by rw [yB]; exact hisS _ (by omega)) _ (hisS _ (by omega)))
   (fun t ht => by rw [hW1, World.frozen?_setCells, yB]; exact hfz _ (by omega))
 have hW : Hid (W1 = w.drew.setCells b (off + i * 2) news) := hW1
 have hic : i ≤ c := by omega
 have hjc : i + 1 ≤ c := by omega
 have htn : ((i : Int) + 1).toNat = i + 1 := by omega
 have hne : ¬ ((i : Int) = (i : Int) + 1) := by omega
 have hsum : i + (n - (i + 1)) = n - 1 := by omega
 have hg : (0 : Int) ≤ (i : Int) + 1 := by omega
 have hin : (i : Int) + 1 ≤ (n : Int) := by omega
 clear hW1 hlen
 go_enter Tryz.func52, Tryz.ntmps52
 go_wp2_with fail
 go_region_law_o (refine step_append_room rfl (.tmp 22) (.tmp 25) 64 rfl 85 Tryz.t85 2 Tryz.underlying64 hi0 hs0 b off i c (by simp [Act.eval, Act.put]) A (n - (i + 1)) (c - (i + 1)) news (by simp [Act.eval, Act.put]) s1.out hsrc.out s2.out (by omega) s3.out ?_; rw [← hW.out])
 go_wp2
 go_ret
 exact ⟨rfl, by rw [hW.out, hnews]; rfl⟩
set_option maxHeartbeats 4000000 in
set_option maxRecDepth 1000000 in
theorem Tryz.del55 (b off n c i : Nat) (cs : List Value) (w : World) (hi : i < n) (hroom : n ≤ c) (hc63 : c ≤ 9223372036854775807) (hcl : cs.length = n * 3)
  (hcs : ∀ j v, cs[j]? = some v → w.cell? ⟨b, off + j, none⟩ = some v) (hfz : ∀ j, j < n * 3 → w.frozen? ⟨b, off + j, none⟩ = false) (h1c : ∀ v ∈ cs.drop ((i + 1) * 3), v.oneCell' = true) :
  Calls Tryz.prog 55 #[.slice (some ⟨b, off, none⟩) n c, .int .i64 i, .int .i64 ((i : Int) + 1)] w fun e w' =>
   e = .returned (.slice (some ⟨b, off, none⟩) (n - 1) c) ∧ w' = (w.drew.setCells b (off + i * 3) (cs.drop ((i + 1) * 3))).setCells b (off + (n - 1) * 3) (Builtin.zeroCells (.agg #[.int .i64 0, .int .i64 0, .int .i64 0] : Value).cells 1).toList := by
 have mixed : Tryz.prog.follows .mixedOrders = true := by kernel_rfl
 have hi0 : Tryz.prog.info? 57 = some Tryz.t57 := by kernel_rfl
 have hs0 : Tryz.t57.size = 3 := by kernel_rfl
 have hz0 : ∀ w, (zeroValue 57).run Tryz.prog w = .ok (.agg #[.int .i64 0, .int .i64 0, .int .i64 0]) w := fun w => by
  have : Tryz.t57.zero = some (.agg #[.int .i64 0, .int .i64 0, .int .i64 0]) := by kernel_rfl
  simp [zeroValue, typeInfo, hi0, this]
 have hisS : ∀ j, j < n * 3 → (w.cell? ⟨b, off + j, none⟩).isSome = true := fun j hj => by
  rw [hcs j _ (yH (by omega))]; rfl
 obtain ⟨news, hnews⟩ : ∃ news, news = cs.drop ((i + 1) * 3) := ⟨_, rfl⟩
 have hlen : news.length = (n - (i + 1)) * 3 := by rw [hnews, yG, hcl]; omega
 obtain ⟨A, hA, hsrc⟩ : ∃ A : Addr, (if c = i + 1 then some (⟨b, off, none⟩ : Addr) else some ⟨b, off + (i + 1) * 3, none⟩) = some A ∧ Hid (∀ t u, news[t]? = some u → w.drew.cell? (A.add t) = some u) := by
  by_cases h : c = i + 1
  ·refine ⟨⟨b, off, none⟩, by simp [h], fun t u hu => ?_⟩
   have h0 : news.length = 0 := by rw [hlen]; omega
   rw [vA.1 h0] at hu
   simp at hu
  ·refine ⟨⟨b, off + (i + 1) * 3, none⟩, by simp [h], fun t u hu => ?_⟩
   rw [hnews, yM] at hu
   rw [Addr.add_lit, yB]
   exact hcs _ _ hu
 have s1 : Hid (news.length = (n - (i + 1)) * 3) := hlen
 have s2 : Hid (∀ u ∈ news, u.oneCell' = true) := fun u hu => h1c u (by rw [hnews] at hu; exact hu)
 have s3 : Hid (∀ t, t < news.length → (w.drew.cell? ⟨b, off + i * 3 + t, none⟩).isSome = true ∧ w.drew.frozen? ⟨b, off + i * 3 + t, none⟩ = false) := by
  intro t ht
  rw [hlen] at ht
  rw [yB]
  exact ⟨hisS _ (by omega), hfz _ (by omega)⟩
 obtain ⟨W1, hW1⟩ : ∃ W1, W1 = w.drew.setCells b (off + i * 3) news := ⟨_, rfl⟩
 have hcl1 : ∀ ty, (Builtin.clear_ #[28] ty #[.slice (some ⟨b, off + (n - 1) * 3, none⟩) (n - (n - 1)) (c - (n - 1))]).run Tryz.prog W1 = .ok (.tuple #[]) (W1.setCells b (off + (n - 1) * 3) (Builtin.zeroCells (.agg #[.int .i64 0, .int .i64 0, .int .i64 0] : Value).cells 1).toList) := fun ty => by
  rw [show n - (n - 1) = 1 by omega]
  exact run_clear_k W1 28 57 ty (.agg #[.int .i64 0, .int .i64 0, .int .i64 0]) 3 1 Tryz.underlying28 hz0 rfl (by intro v hv; rw [show (Builtin.zeroCells (.agg #[.int .i64 0, .int .i64 0, .int .i64 0] : Value).cells 1).toList = [.int .i64 0, .int .i64 0, .int .i64 0] from by simp [Builtin.zeroCells, Value.cells]; rfl] at hv; simp at hv; subst hv; rfl) b (off + (n - 1) * 3) _ (by omega)
   (fun t ht => by rw [hW1, yB]; exact isSome_setCells b _ _ _ (fun q hq => by rw [yB]; exact hisS _ (by omega)) _ (hisS _ (by omega)))
   (fun t ht => by rw [hW1, World.frozen?_setCells, yB]; exact hfz _ (by omega))
 have hW : Hid (W1 = w.drew.setCells b (off + i * 3) news) := hW1
 have hic : i ≤ c := by omega
 have hjc : i + 1 ≤ c := by omega
 have htn : ((i : Int) + 1).toNat = i + 1 := by omega
 have hne : ¬ ((i : Int) = (i : Int) + 1) := by omega
 have hsum : i + (n - (i + 1)) = n - 1 := by omega
 have hg : (0 : Int) ≤ (i : Int) + 1 := by omega
 have hin : (i : Int) + 1 ≤ (n : Int) := by omega
 clear hW1 hlen
 go_enter Tryz.func55, Tryz.ntmps55
 go_wp2_with fail
 go_region_law_o (refine step_append_room rfl (.tmp 22) (.tmp 25) 28 rfl 57 Tryz.t57 3 Tryz.underlying28 hi0 hs0 b off i c (by simp [Act.eval, Act.put]) A (n - (i + 1)) (c - (i + 1)) news (by simp [Act.eval, Act.put]) s1.out hsrc.out s2.out (by omega) s3.out ?_; rw [← hW.out])
 go_wp2
 go_ret
 exact ⟨rfl, by rw [hW.out, hnews]; rfl⟩
set_option maxHeartbeats 4000000 in
set_option maxRecDepth 1000000 in
theorem Tryz.del91 (b off n c i : Nat) (cs : List Value) (w : World) (hi : i < n) (hroom : n ≤ c) (hc63 : c ≤ 9223372036854775807) (hcl : cs.length = n * 3)
  (hcs : ∀ j v, cs[j]? = some v → w.cell? ⟨b, off + j, none⟩ = some v) (hfz : ∀ j, j < n * 3 → w.frozen? ⟨b, off + j, none⟩ = false) (h1c : ∀ v ∈ cs.drop ((i + 1) * 3), v.oneCell' = true) :
  Calls Tryz.prog 91 #[.slice (some ⟨b, off, none⟩) n c, .int .i64 i, .int .i64 ((i : Int) + 1)] w fun e w' =>
   e = .returned (.slice (some ⟨b, off, none⟩) (n - 1) c) ∧ w' = (w.drew.setCells b (off + i * 3) (cs.drop ((i + 1) * 3))).setCells b (off + (n - 1) * 3) (Builtin.zeroCells (.agg #[.string ⟨#[]⟩, .slice none 0 0, .slice none 0 0] : Value).cells 1).toList := by
 have mixed : Tryz.prog.follows .mixedOrders = true := by kernel_rfl
 have hi0 : Tryz.prog.info? 66 = some Tryz.t66 := by kernel_rfl
 have hs0 : Tryz.t66.size = 3 := by kernel_rfl
 have hz0 : ∀ w, (zeroValue 66).run Tryz.prog w = .ok (.agg #[.string ⟨#[]⟩, .slice none 0 0, .slice none 0 0]) w := fun w => by
  have : Tryz.t66.zero = some (.agg #[.string ⟨#[]⟩, .slice none 0 0, .slice none 0 0]) := by kernel_rfl
  simp [zeroValue, typeInfo, hi0, this]
 have hisS : ∀ j, j < n * 3 → (w.cell? ⟨b, off + j, none⟩).isSome = true := fun j hj => by
  rw [hcs j _ (yH (by omega))]; rfl
 obtain ⟨news, hnews⟩ : ∃ news, news = cs.drop ((i + 1) * 3) := ⟨_, rfl⟩
 have hlen : news.length = (n - (i + 1)) * 3 := by rw [hnews, yG, hcl]; omega
 obtain ⟨A, hA, hsrc⟩ : ∃ A : Addr, (if c = i + 1 then some (⟨b, off, none⟩ : Addr) else some ⟨b, off + (i + 1) * 3, none⟩) = some A ∧ Hid (∀ t u, news[t]? = some u → w.drew.cell? (A.add t) = some u) := by
  by_cases h : c = i + 1
  ·refine ⟨⟨b, off, none⟩, by simp [h], fun t u hu => ?_⟩
   have h0 : news.length = 0 := by rw [hlen]; omega
   rw [vA.1 h0] at hu
   simp at hu
  ·refine ⟨⟨b, off + (i + 1) * 3, none⟩, by simp [h], fun t u hu => ?_⟩
   rw [hnews, yM] at hu
   rw [Addr.add_lit, yB]
   exact hcs _ _ hu
 have s1 : Hid (news.length = (n - (i + 1)) * 3) := hlen
 have s2 : Hid (∀ u ∈ news, u.oneCell' = true) := fun u hu => h1c u (by rw [hnews] at hu; exact hu)
 have s3 : Hid (∀ t, t < news.length → (w.drew.cell? ⟨b, off + i * 3 + t, none⟩).isSome = true ∧ w.drew.frozen? ⟨b, off + i * 3 + t, none⟩ = false) := by
  intro t ht
  rw [hlen] at ht
  rw [yB]
  exact ⟨hisS _ (by omega), hfz _ (by omega)⟩
 obtain ⟨W1, hW1⟩ : ∃ W1, W1 = w.drew.setCells b (off + i * 3) news := ⟨_, rfl⟩
 have hcl1 : ∀ ty, (Builtin.clear_ #[22] ty #[.slice (some ⟨b, off + (n - 1) * 3, none⟩) (n - (n - 1)) (c - (n - 1))]).run Tryz.prog W1 = .ok (.tuple #[]) (W1.setCells b (off + (n - 1) * 3) (Builtin.zeroCells (.agg #[.string ⟨#[]⟩, .slice none 0 0, .slice none 0 0] : Value).cells 1).toList) := fun ty => by
  rw [show n - (n - 1) = 1 by omega]
  exact run_clear_k W1 22 66 ty (.agg #[.string ⟨#[]⟩, .slice none 0 0, .slice none 0 0]) 3 1 Tryz.underlying22 hz0 rfl (by intro v hv; rw [show (Builtin.zeroCells (.agg #[.string ⟨#[]⟩, .slice none 0 0, .slice none 0 0] : Value).cells 1).toList = [.string ⟨#[]⟩, .slice none 0 0, .slice none 0 0] from by simp [Builtin.zeroCells, Value.cells]; rfl] at hv; simp at hv; rcases hv with rfl | rfl <;> rfl) b (off + (n - 1) * 3) _ (by omega)
   (fun t ht => by rw [hW1, yB]; exact isSome_setCells b _ _ _ (fun q hq => by rw [yB]; exact hisS _ (by omega)) _ (hisS _ (by omega)))
   (fun t ht => by rw [hW1, World.frozen?_setCells, yB]; exact hfz _ (by omega))
 have hW : Hid (W1 = w.drew.setCells b (off + i * 3) news) := hW1
 have hic : i ≤ c := by omega
 have hjc : i + 1 ≤ c := by omega
 have htn : ((i : Int) + 1).toNat = i + 1 := by omega
 have hne : ¬ ((i : Int) = (i : Int) + 1) := by omega
 have hsum : i + (n - (i + 1)) = n - 1 := by omega
 have hg : (0 : Int) ≤ (i : Int) + 1 := by omega
 have hin : (i : Int) + 1 ≤ (n : Int) := by omega
 clear hW1 hlen
 go_enter Tryz.func91, Tryz.ntmps91
 go_wp2_with fail
 go_region_law_o (refine step_append_room rfl (.tmp 22) (.tmp 25) 22 rfl 66 Tryz.t66 3 Tryz.underlying22 hi0 hs0 b off i c (by simp [Act.eval, Act.put]) A (n - (i + 1)) (c - (i + 1)) news (by simp [Act.eval, Act.put]) s1.out hsrc.out s2.out (by omega) s3.out ?_; rw [← hW.out])
 go_wp2
 go_ret
 exact ⟨rfl, by rw [hW.out, hnews]; rfl⟩
end Go.Proofs
namespace Go.Fx.J
open Go Go.Fx Go.Proofs Go.Fx.R Go.RowKit
set_option maxRecDepth 20000
theorem okN_ghostP {P : Program} {f : FuncId} {args args' : List V} {h0 h0' : List Blk} {mv : List Nat} {R : V → List Blk → Prop} (fx : List Nat) (hlen : args'.length = args.length) (hl : h0'.length = h0.length) (hkp : keepP fx h0) (hfx : ∀ k, k < h0.length → k ∉ mv → k ∈ fx)
  (hg : leG fx ⟨args0 0 args, h0, 0⟩ ⟨args0 0 args', h0', 0⟩) (h : OkN P f args' h0' mv R) : OkN P f args h0 mv R := by
 refine ⟨h.1, ?_⟩
 intro ρ X w vals h1 h2
 have hvl := RepL_len h2
 have hgd : Good ρ X w fx vals.length ⟨args0 0 args, h0, 0⟩ { tmps := vals.toArray, defers := [] } w :=
  ⟨ρ, ⟨⟨Fr.refl _ _, fun _ _ => rfl⟩, hkp⟩, ⟨h1, by have := args0_rep h2 0; simpa using this⟩, by simp, Marks.nil⟩
 obtain ⟨ρ2, ⟨⟨p1, p2⟩, p3⟩, ⟨p4, p5⟩, _⟩ := hgd.leG hg
 have hv' : RepL ρ2 X w args' vals := by
  refine repL_of (by omega) fun i h1 h2 => ?_
  have := p5 i
  have hget := get_args0_add args' 0 i
  rw [uR, dif_pos h1] at hget
  rw [hget] at this
  simpa [h2] using this
 refine Calls.mono (h.2 ρ2 X w vals p4 hv') ?_
 rintro e w' ⟨val, r, h', ρ', q1, ⟨q2, q2l⟩, q3, q4, q5, q6⟩
 exact ⟨val, r, h', ρ', q1, ⟨q2, by omega⟩, p1.trans q3, q4, q5, fun k hk hm => (q6 k (by omega) hm).trans (p2 k (hfx k hk hm))⟩
theorem raw52 : RawDel Tryz.prog 52 2 := ⟨_, by simp [Builtin.zeroCells, Value.cells], fun b off n c i cs w h1 h2 h3 h4 h5 h6 h7 => Tryz.del52 b off n c i cs w h1 h2 h3 h4 h5 h6 h7⟩
theorem raw55 : RawDel Tryz.prog 55 3 := ⟨_, by simp [Builtin.zeroCells, Value.cells], fun b off n c i cs w h1 h2 h3 h4 h5 h6 h7 => Tryz.del55 b off n c i cs w h1 h2 h3 h4 h5 h6 h7⟩
theorem raw91 : RawDel Tryz.prog 91 3 := ⟨_, by simp [Builtin.zeroCells, Value.cells], fun b off n c i cs w h1 h2 h3 h4 h5 h6 h7 => Tryz.del91 b off n c i cs w h1 h2 h3 h4 h5 h6 h7⟩
theorem isDC {x : V} (h : isD x = true) : isC x = true := by
 cases x with
 | v y => cases y <;> simp_all [isD, isC]
 | _ => simp_all [isD, isC]
theorem fn_delD {f : FuncId} {S : Nat} (hcal : Callable Tryz.prog f) (hraw : RawDel Tryz.prog f S) {els : List (List V)} {i : Nat} (hi : i < els.length) (hD : ∀ e ∈ els, e.all isD = true) :
  OkN Tryz.prog f [.sl 0 0 els.length, .i i, .i ((i : Int) + 1)] [.arr S els] [] (IsA (.sl 0 0 (els.length - 1)) [.arr S (els.take i ++ els.drop (i + 1))]) := by
 have hDC : ∀ e ∈ els, e.all isC = true := fun e he => vH.2 fun x hx => by
  exact isDC (vH.1 (hD e he) x hx)
 have h := fn_del (P := Tryz.prog) hcal hraw hi (fun r e _ he => hDC e (List.mem_of_getElem? he))
 have h2 : OkN Tryz.prog f [.sl 0 0 els.length, .i i, .i ((i : Int) + 1)] [.arr S els] [] (IsA (.sl 0 0 (els.length - 1)) [.arv S (els.take i ++ els.drop (i + 1))]) := by
  have hwf : wfL [Blk.arv S els] els.flatten := wfL_all' fun x hx => by
   obtain ⟨e, he, hx⟩ := vN.1 hx
   have := vH.1 (hD e he) x hx
   cases x <;> simp_all [isD, wfV]
  refine okN_ghostP (args' := [.sl 0 0 els.length, .i i, .i ((i : Int) + 1)]) (h0' := [.arv S els]) [0] rfl rfl ⟨trivial, trivial⟩ (by simp) ⟨_, .opn 0 S els rfl (by intro e; rw [e] at hi; simp at hi) (.refl _), ?_⟩ h
  refine ⟨?_, ?_, ⟨trivial, trivial⟩, ?_, ?_⟩
  ·exact ⟨rfl, rfl, rfl, trivial⟩
  ·exact ⟨rfl, trivial⟩
  ·exact ⟨trivial, trivial, trivial, trivial⟩
  ·exact ⟨hwf, trivial⟩
 refine ⟨h2.1, Fn_ghostN [0] (by simp) (by simp) h2.2 ?_⟩
 rintro r hs ⟨rfl, rfl⟩
 refine ⟨⟨trivial, trivial⟩, _, _, ⟨rfl, rfl⟩, by simp, _, .cls 0 S _ rfl (fun e he => hD e ?_) (.refl _), ?_⟩
 ·rcases uM.1 he with h | h
  ·exact vM h
  ·exact vQ h
 ·exact ⟨⟨rfl, trivial⟩, ⟨rfl, trivial⟩, ⟨trivial, trivial⟩, ⟨trivial, trivial⟩, trivial⟩
theorem map_less {α : Type} {g : α → List V} {l : List α} {i : Nat} : (l.map g).take i ++ (l.map g).drop (i + 1) = (l.take i ++ l.drop (i + 1)).map g := by
 rw [yX, uS, List.map_drop]
theorem ok52 (l : List Wai) (i : Nat) (hi : i < l.length) : OkN Tryz.prog 52 [.sl 0 0 l.length, .i i, .i ((i : Int) + 1)] [.arr 2 (l.map Wai.enc)] [] (IsA (.sl 0 0 (l.length - 1)) [.arr 2 ((l.take i ++ l.drop (i + 1)).map Wai.enc)]) := by
 have := fn_delD (cal Tryz.func52 (by kernel_rfl) (by kernel_rfl)) raw52 (els := l.map Wai.enc) (i := i) (by simpa using hi) (fun e he => by obtain ⟨w, _, rfl⟩ := yW.1 he; rfl)
 rw [map_less, uH] at this
 exact this
theorem ok55 (l : List Fet) (i : Nat) (hi : i < l.length) : OkN Tryz.prog 55 [.sl 0 0 l.length, .i i, .i ((i : Int) + 1)] [.arr 3 (l.map Fet.enc)] [] (IsA (.sl 0 0 (l.length - 1)) [.arr 3 ((l.take i ++ l.drop (i + 1)).map Fet.enc)]) := by
 have := fn_delD (cal Tryz.func55 (by kernel_rfl) (by kernel_rfl)) raw55 (els := l.map Fet.enc) (i := i) (by simpa using hi) (fun e he => by obtain ⟨w, _, rfl⟩ := yW.1 he; rfl)
 rw [map_less, uH] at this
 exact this
theorem ok91 (els : List (List V)) (i : Nat) (hi : i < els.length) (hC : ∀ r e, i < r → els[r]? = some e → e.all isC = true) : OkN Tryz.prog 91 [.sl 0 0 els.length, .i i, .i ((i : Int) + 1)] [.arv 3 els] [] (IsA (.sl 0 0 (els.length - 1)) [.arv 3 (els.take i ++ els.drop (i + 1))]) :=
 fn_del (cal Tryz.func91 (by kernel_rfl) (by kernel_rfl)) raw91 hi hC
end Go.Fx.J
namespace Go.Proofs
open Go.Shelf
def Tryz.sortFt_ren : Go.Shelf.Ren := ⟨fun | 6 => 85 | 15 => 112 | 14 => 111 | 28 => 131 | 29 => 132 | 20 => 123 | 21 => 124 | 22 => 125 | 23 => 126 | 24 => 127 | 25 => 128 | 26 => 129 | 27 => 130 | 46 => 144 | 47 => 145 | 48 => 146 | 49 => 147 | 50 => 148 | 57 => 160 | n => n, fun | 22 => 28 | 24 => 57 | 25 => 125 | 3 => 3 | 39 => 150 | 0 => 0 | 53 => 168 | 55 => 170 | 4 => 4 | 46 => 162 | 45 => 161 | 50 => 74 | 5 => 5 | 9 => 9 | 66 => 179 | 70 => 183 | 76 => 192 | 77 => 193 | n => n, fun | n => n⟩
theorem Tryz.sortFt : Go.Proofs.SlLaysF0.n6 Tryz.prog Tryz.sortFt_ren := {
 mixed := by kernel_rfl
 f6 := ⟨Tryz.f85.name, by decide, Tryz.func85.trans (congrArg some (by kernel_rfl))⟩
 f14 := ⟨Tryz.f111.name, by decide, Tryz.func111.trans (congrArg some (by kernel_rfl))⟩
 f15 := Tryz.func112.trans (congrArg some (by kernel_rfl))
 f20 := ⟨Tryz.f123.name, by decide, Tryz.func123.trans (congrArg some (by kernel_rfl))⟩
 f21 := ⟨Tryz.f124.name, by decide, Tryz.func124.trans (congrArg some (by kernel_rfl))⟩
 f22 := ⟨Tryz.f125.name, by decide, Tryz.func125.trans (congrArg some (by kernel_rfl))⟩
 f23 := ⟨Tryz.f126.name, by decide, Tryz.func126.trans (congrArg some (by kernel_rfl))⟩
 f24 := ⟨Tryz.f127.name, by decide, Tryz.func127.trans (congrArg some (by kernel_rfl))⟩
 f25 := ⟨Tryz.f128.name, by decide, Tryz.func128.trans (congrArg some (by kernel_rfl))⟩
 f26 := ⟨Tryz.f129.name, by decide, Tryz.func129.trans (congrArg some (by kernel_rfl))⟩
 f27 := ⟨Tryz.f130.name, by decide, Tryz.func130.trans (congrArg some (by kernel_rfl))⟩
 f28 := Tryz.func131.trans (congrArg some (by kernel_rfl))
 f29 := Tryz.func132.trans (congrArg some (by kernel_rfl))
 f46 := ⟨Tryz.f144.name, by decide, Tryz.func144.trans (congrArg some (by kernel_rfl))⟩
 f47 := Tryz.func145.trans (congrArg some (by kernel_rfl))
 f48 := Tryz.func146.trans (congrArg some (by kernel_rfl))
 f49 := ⟨Tryz.f147.name, by decide, Tryz.func147.trans (congrArg some (by kernel_rfl))⟩
 f50 := ⟨Tryz.f148.name, by decide, Tryz.func148.trans (congrArg some (by kernel_rfl))⟩
 f57 := ⟨Tryz.f160.name, by decide, Tryz.func160.trans (congrArg some (by kernel_rfl))⟩
 t0 := Tryz.underlying0
 a0 := Tryz.isAgg0
 z0 := Tryz.sizeOf0
 v0 := Tryz.zeroValue0
 t3 := Tryz.underlying3
 a3 := Tryz.isAgg3
 z3 := Tryz.sizeOf3
 v3 := Tryz.zeroValue3
 t4 := Tryz.underlying4
 a4 := Tryz.isAgg4
 z4 := Tryz.sizeOf4
 v4 := Tryz.zeroValue4
 t5 := Tryz.underlying5
 a5 := Tryz.isAgg5
 z5 := Tryz.sizeOf5
 v5 := Tryz.zeroValue5
 t9 := Tryz.underlying9
 a9 := Tryz.isAgg9
 z9 := Tryz.sizeOf9
 v9 := Tryz.zeroValue9
 t22 := Tryz.underlying28
 a22 := Tryz.isAgg28
 z22 := Tryz.sizeOf28
 v22 := Tryz.zeroValue28
 t25 := Tryz.underlying125
 a25 := Tryz.isAgg125
 z25 := Tryz.sizeOf125
 v25 := Tryz.zeroValue125
 t39 := Tryz.underlying150
 a39 := Tryz.isAgg150
 z39 := Tryz.sizeOf150
 v39 := Tryz.zeroValue150
 t45 := Tryz.underlying161
 a45 := Tryz.isAgg161
 z45 := Tryz.sizeOf161
 v45 := Tryz.zeroValue161
 t46 := Tryz.underlying162
 a46 := Tryz.isAgg162
 z46 := Tryz.sizeOf162
 v46 := Tryz.zeroValue162
 t50 := Tryz.underlying74
 a50 := Tryz.isAgg74
 z50 := Tryz.sizeOf74
 v50 := Tryz.zeroValue74
 t53 := Tryz.underlying168
 a53 := Tryz.isAgg168
 z53 := Tryz.sizeOf168
 v53 := Tryz.zeroValue168
 t55 := Tryz.underlying170
 a55 := Tryz.isAgg170
 z55 := Tryz.sizeOf170
 v55 := Tryz.zeroValue170
 t66 := Tryz.underlying179
 a66 := Tryz.isAgg179
 z66 := Tryz.sizeOf179
 v66 := Tryz.zeroValue179
 t70 := Tryz.underlying183
 a70 := Tryz.isAgg183
 z70 := Tryz.sizeOf183
 v70 := Tryz.zeroValue183
 t76 := Tryz.underlying192
 a76 := Tryz.isAgg192
 z76 := Tryz.sizeOf192
 v76 := Tryz.zeroValue192
 t77 := Tryz.underlying193
 a77 := Tryz.isAgg193
 z77 := Tryz.sizeOf193
 v77 := Tryz.zeroValue193 }
end Go.Proofs
namespace Go.Fx.J
open Go Go.Fx Go.Proofs Go.Fx.R Go.Sort
set_option maxRecDepth 20000
abbrev MFt := Fet
def enF (f : MFt) : List Value := [.int .i64 f.id, .int .i64 f.sp.1, .int .i64 f.sp.2]
theorem cmp_lt {a b : Int} (h : a < b) : cmpI a b = -1 := by unfold cmpI; rw [if_pos h]
theorem cmp_gt {a b : Int} (h : b < a) : cmpI a b = 1 := by unfold cmpI; rw [if_neg (by omega), if_pos h]
theorem cmp_eq {a b : Int} (h1 : b ≤ a) (h2 : a ≤ b) : cmpI a b = 0 := by unfold cmpI; rw [if_neg (by omega), if_neg (by omega)]
set_option maxHeartbeats 1000000 in
theorem cl86 (x y : MFt) (W : World) : Calls Tryz.prog 86 #[.agg #[.int .i64 x.id, .int .i64 x.sp.1, .int .i64 x.sp.2], .agg #[.int .i64 y.id, .int .i64 y.sp.1, .int .i64 y.sp.2]] W fun e w' => e = .returned (.int .i64 (cmpI x.sp.1 y.sp.1)) ∧ ∃ q os', w' = Sort.grow (W.drewN q) os' := by
 go_enter Tryz.func86, Tryz.ntmps86
 go_wp2
 all_goals (go_ret; refine ⟨?_, 0, _, by rw [Go.Sort.alloc_eq_grow, Go.Sort.alloc_eq_grow, Go.Sort.grow_grow]; rfl⟩; first | (rw [cmp_lt (by omega)]; rfl) | (rw [cmp_gt (by omega)]; rfl) | (rw [cmp_eq (by omega) (by omega)]; rfl))
theorem cmp_neg {a b : Int} : cmpI a b < 0 ↔ a < b := by
 unfold cmpI
 split
 ·simp; omega
 ·split
  ·simp; omega
  ·simp; omega
theorem swoF : SWO (ltOf fun x y : MFt => cmpI x.sp.1 y.sp.1) where
 irrefl x := by unfold ltOf; simp [cmp_neg]
 trans x y z h1 h2 := by unfold ltOf at *; simp [cmp_neg] at *; omega
 ntrans x y z h1 h2 := by unfold ltOf at *; simp [cmp_neg] at *; omega
theorem none85 (a : Option Addr) (w : World) : Calls Tryz.prog 85 #[.slice a 0 0, .func (.func 86) #[] #[]] w fun e w' => e = .returned (.tuple #[]) ∧ w' = w :=
 AnyF.slices_SortFunc_none Tryz.sortFt a 0 _ w
theorem sort85 (l : List MFt) (hl : l.length < 4611686018427387904) : OkN Tryz.prog 85 [.sl 0 0 l.length, .clo 86 []] [.arr 3 (l.map (enV enF))] [] (IsQ (SrtK (ltOf fun x y : MFt => cmpI x.sp.1 y.sp.1) l) (fun _ => .tup []) (fun d => [.arr 3 (d.map (enV enF))])) := by
 refine fn_sortK (en := enF) (k := 3) (cal Tryz.func85 (by kernel_rfl) (by kernel_rfl)) (fun _ => rfl) (by decide) (fun x z hz => by simp [enF] at hz; rcases hz with rfl | rfl | rfl <;> rfl) ?_ none85 l hl
 intro blk off cap d w hH hb hs
 exact AnyQ.slices_SortFunc Tryz.sortFt 3 Tryz.isAgg57 Tryz.sizeOf57 enF (fun _ => rfl) (fun x v hv => by simp [enF] at hv; rcases hv with rfl | rfl | rfl <;> rfl) (fun x y => cmpI x.sp.1 y.sp.1) swoF 86 #[] blk off cap d w
  (enters_of Tryz.func86 (by kernel_rfl) rfl) (fun _ _ _ _ x y => cl86 x y _) hH hb hs
theorem enF_enc {l : List Fet} : l.map (enV enF) = l.map Fet.enc := by
 refine List.map_congr_left fun f _ => rfl
structure SrtF (l d : List Fet) : Prop where
 p : d.Perm l
 s : Asc1 d
theorem ok85 (l : List Fet) (hl : l.length ≤ 4398046511104) : OkN Tryz.prog 85 [.sl 0 0 l.length, .clo 86 []] [.arr 3 (l.map Fet.enc)] [] (IsQ (SrtF l) (fun _ => .tup []) (fun d => [.arr 3 (d.map Fet.enc)])) := by
 have h := sort85 l (by omega)
 rw [enF_enc] at h
 refine okN_post h ?_
 rintro r hs ⟨d, ⟨h1, h2⟩, rfl, rfl⟩
 refine ⟨d, ⟨h1, ?_⟩, rfl, by simp only [enF_enc]⟩
 refine h2.imp fun {x y} h => ?_
 unfold ltOf at h
 simp [cmp_neg] at h
 omega
theorem rawC76 (l : List Fet) (hl : l.length ≤ 4398046511104) : Ok 76 [.bro 3 (l.map Fet.enc)] (fun r h => IsA (.sl 0 0 l.length) [.arr 3 (l.map Fet.enc)] r h ∨ (l = [] ∧ IsA .nil [] r h)) := by
 refine ok_of lw76 (by simp) ?_
 unfold c76
 simp -implicitDefEqProofs only [rX,↓rY,ofConst,↓reduceIte,Nat.reduceEqDiff,reduceCtorEq,freshP,litsP,killE,killB,kill,St.kill,cxN,args0]
 have hA : retP [] 0 [LRes.tmp 2] (fun r h => IsA (.sl 0 0 l.length) [.arr 3 (l.map Fet.enc)] r h ∨ (l = [] ∧ IsA .nil [] r h)) ⟨[(2, V.sl 0 0 l.length), (7, V.sl 0 0 l.length), (6, V.bro 3 (yC Fet.enc l)), (5, V.any), (4, V.b false), (3, V.bro 3 (yC Fet.enc l)), (2, V.v (Value.slice none 0 0)), (0, V.bro 3 (yC Fet.enc l))], [Blk.arr 3 (yC Fet.enc l), Blk.dead], 0⟩ := by
  rw [retP_eq]
  simp -implicitDefEqProofs only [rX,↓reduceIte,resP,tupV,keepP,liveP,wfV]
  exact ⟨[.arr 3 (l.map Fet.enc)], ⟨by simp [leH, leB], by simp [wfV, wfL, liveP], by simp [wfB]⟩, .inl ⟨rfl, rfl⟩⟩
 refine ⟨fun _ => ⟨.inr trivial, by omega, hA⟩, fun h => ⟨?_, .inr trivial, by omega, hA⟩⟩
 have h0 : l = [] := by simpa using h
 rw [retP_eq]
 simp -implicitDefEqProofs only [rX,↓reduceIte,resP,tupV,keepP,wfV]
 exact ⟨[], ⟨by simp [leH], by simp, by simp [wfB]⟩, .inr ⟨h0, rfl, rfl⟩⟩
theorem ok76 (l : List Fet) (hl : l.length ≤ 4398046511104) : Ok 76 [.bro 3 (l.map Fet.enc)] (IsA (.sl 0 0 l.length) [.arr 3 (l.map Fet.enc)]) := by
 refine okN_ghost (rawC76 l hl) ?_
 rintro r h (⟨rfl, rfl⟩ | ⟨rfl, rfl, rfl⟩)
 ·exact ⟨_, _, ⟨rfl, rfl⟩, _, .refl _, by simp -implicitDefEqProofs only [rX,↓reduceIte,leE,leH,leB,keepP,liveP,wfE,wfB,wfV]⟩
 ·refine ⟨_, _, ⟨rfl, rfl⟩, _, .virt 1 3 (by decide) (.nilE 0 0 rfl (.refl _)), ?_⟩
  simp -implicitDefEqProofs only [rX,↓reduceIte,leE,leH,leB,keepP,liveP,wfE,wfB,wfV,vD]
theorem rawC77 (l : List Wai) (hl : l.length ≤ 1000000) : Ok 77 [.bro 2 (l.map Wai.enc)] (fun r h => IsA (.sl 0 0 l.length) [.arr 2 (l.map Wai.enc)] r h ∨ (l = [] ∧ IsA .nil [] r h)) := by
 refine ok_of lw77 (by simp) ?_
 unfold c77
 simp -implicitDefEqProofs only [rX,↓rY,ofConst,↓reduceIte,Nat.reduceEqDiff,reduceCtorEq,freshP,litsP,killE,killB,kill,St.kill,cxN,args0]
 have hA : retP [] 0 [LRes.tmp 2] (fun r h => IsA (.sl 0 0 l.length) [.arr 2 (l.map Wai.enc)] r h ∨ (l = [] ∧ IsA .nil [] r h)) ⟨[(2, V.sl 0 0 l.length), (7, V.sl 0 0 l.length), (6, V.bro 2 (yC Wai.enc l)), (5, V.any), (4, V.b false), (3, V.bro 2 (yC Wai.enc l)), (2, V.v (Value.slice none 0 0)), (0, V.bro 2 (yC Wai.enc l))], [Blk.arr 2 (yC Wai.enc l), Blk.dead], 0⟩ := by
  rw [retP_eq]
  simp -implicitDefEqProofs only [rX,↓reduceIte,resP,tupV,keepP,liveP,wfV]
  exact ⟨[.arr 2 (l.map Wai.enc)], ⟨by simp [leH, leB], by simp [wfV, wfL, liveP], by simp [wfB]⟩, .inl ⟨rfl, rfl⟩⟩
 refine ⟨fun _ => ⟨.inr trivial, by omega, hA⟩, fun h => ⟨?_, .inr trivial, by omega, hA⟩⟩
 have h0 : l = [] := by simpa using h
 rw [retP_eq]
 simp -implicitDefEqProofs only [rX,↓reduceIte,resP,tupV,keepP,wfV]
 exact ⟨[], ⟨by simp [leH], by simp, by simp [wfB]⟩, .inr ⟨h0, rfl, rfl⟩⟩
theorem ok77 (l : List Wai) (hl : l.length ≤ 1000000) : Ok 77 [.bro 2 (l.map Wai.enc)] (IsA (.sl 0 0 l.length) [.arr 2 (l.map Wai.enc)]) := by
 refine okN_ghost (rawC77 l hl) ?_
 rintro r h (⟨rfl, rfl⟩ | ⟨rfl, rfl, rfl⟩)
 ·exact ⟨_, _, ⟨rfl, rfl⟩, _, .refl _, by simp -implicitDefEqProofs only [rX,↓reduceIte,leE,leH,leB,keepP,liveP,wfE,wfB,wfV]⟩
 ·refine ⟨_, _, ⟨rfl, rfl⟩, _, .virt 1 2 (by decide) (.nilE 0 0 rfl (.refl _)), ?_⟩
  simp -implicitDefEqProofs only [rX,↓reduceIte,leE,leH,leB,keepP,liveP,wfE,wfB,wfV,vD]
theorem rawC40 (l : List Mis) (hl : l.length ≤ 1000000) : Ok 40 [.bro 3 (l.map Mis.enc)] (fun r h => IsA (.sl 0 0 l.length) [.arr 3 (l.map Mis.enc)] r h ∨ (l = [] ∧ IsA .nil [] r h)) := by
 refine ok_of lw40 (by simp) ?_
 unfold c40
 simp -implicitDefEqProofs only [rX,↓rY,ofConst,↓reduceIte,Nat.reduceEqDiff,reduceCtorEq,freshP,litsP,killE,killB,kill,St.kill,cxN,k_nil,args0]
 have hA : retP [] 0 [LRes.tmp 2] (fun r h => IsA (.sl 0 0 l.length) [.arr 3 (l.map Mis.enc)] r h ∨ (l = [] ∧ IsA .nil [] r h)) ⟨[(2, V.sl 0 0 l.length), (7, V.sl 0 0 l.length), (6, V.bro 3 (yC Mis.enc l)), (5, V.any), (4, V.b false), (3, V.bro 3 (yC Mis.enc l)), (2, V.v (Value.slice none 0 0)), (0, V.bro 3 (yC Mis.enc l))], [Blk.arr 3 (yC Mis.enc l), Blk.dead], 0⟩ := by
  rw [retP_eq]
  simp -implicitDefEqProofs only [rX,↓reduceIte,resP,tupV,keepP,liveP,wfV]
  exact ⟨[.arr 3 (l.map Mis.enc)], ⟨by simp [leH, leB], by simp [wfV, wfL, liveP], by simp [wfB]⟩, .inl ⟨rfl, rfl⟩⟩
 refine ⟨fun _ => ⟨.inr trivial, by omega, hA⟩, fun h => ⟨?_, .inr trivial, by omega, hA⟩⟩
 have h0 : l = [] := by simpa using h
 rw [retP_eq]
 simp -implicitDefEqProofs only [rX,↓reduceIte,resP,tupV,keepP,wfV]
 exact ⟨[], ⟨by simp [leH], by simp, by simp [wfB]⟩, .inr ⟨h0, rfl, rfl⟩⟩
theorem ok40 (l : List Mis) (hl : l.length ≤ 1000000) : Ok 40 [.bro 3 (l.map Mis.enc)] (IsA (.sl 0 0 l.length) [.arr 3 (l.map Mis.enc)]) := by
 refine okN_ghost (rawC40 l hl) ?_
 rintro r h (⟨rfl, rfl⟩ | ⟨rfl, rfl, rfl⟩)
 ·exact ⟨_, _, ⟨rfl, rfl⟩, _, .refl _, by simp -implicitDefEqProofs only [rX,↓reduceIte,leE,leH,leB,keepP,liveP,wfE,wfB,wfV]⟩
 ·refine ⟨_, _, ⟨rfl, rfl⟩, _, .virt 1 3 (by decide) (.nilE 0 0 rfl (.refl _)), ?_⟩
  simp -implicitDefEqProofs only [rX,↓reduceIte,leE,leH,leB,keepP,liveP,wfE,wfB,wfV,vD]
theorem ok40v (l : List Mis) (hl : l.length ≤ 1000000) (hn : l ≠ []) : Ok 40 [.bro 3 (l.map Mis.enc)] (IsA (.sl 0 0 l.length) [.arv 3 (l.map Mis.enc)]) := by
 refine okN_ghost (ok40 l hl) ?_
 rintro r h ⟨rfl, rfl⟩
 refine ⟨_, _, ⟨rfl, rfl⟩, _, .opn 0 3 _ rfl (by simpa using hn) (.refl _), ?_⟩
 have hw : ∀ q, wfL q (l.map Mis.enc).flatten := fun q => wfL_all' fun x hx => by
  obtain ⟨e, he, hx⟩ := vN.1 hx
  obtain ⟨m, _, rfl⟩ := yW.1 he
  unfold Mis.enc at hx
  simp at hx
  rcases hx with rfl | rfl | rfl <;> trivial
 exact ⟨⟨rfl, trivial⟩, ⟨rfl, trivial⟩, trivial, ⟨trivial, trivial⟩, hw _, trivial⟩
end Go.Fx.J
namespace Go.Fx.J
open Go Go.Fx Go.Proofs Go.Fx.R
set_option maxRecDepth 20000
def rowE (key : S) (f w : V) : List V := [sv key, f, w]
def rowsM (l : List Mis) (k : Nat) (key : S) (f w : V) : List (List V) := (l.map Mis.enc).set k (rowE key f w)
theorem ren_rows {f : Nat → Option Nat} {l : List Mis} : (l.map Mis.enc).map (rens f) = l.map Mis.enc := by
 rw [vT]; rfl
theorem wf_rows {h : List Blk} {l : List Mis} {k : Nat} {key : S} {f w : V} (hf : wfV h f) (hw : wfV h w) : wfL h (rowsM l k key f w).flatten := wfL_all' fun x hx => by
 obtain ⟨e, he, hx⟩ := vN.1 hx
 rcases List.mem_or_eq_of_mem_set he with he | rfl
 ·obtain ⟨m, _, rfl⟩ := yW.1 he
  unfold Mis.enc at hx
  simp at hx
  rcases hx with rfl | rfl | rfl <;> trivial
 ·unfold rowE at hx
  simp at hx
  rcases hx with rfl | rfl | rfl
  ·trivial
  ·exact hf
  ·exact hw
theorem ok41 (j : Jns) (k : Nat) (hk : k < j.l.length) (hl : j.l.length ≤ 1000000) (hf : ∀ m ∈ j.l, m.fl.length ≤ 1099511627776 ∧ m.wt.length ≤ 1000000) :
  Ok 41 [.agg [.i j.last, .bro 3 (j.l.map Mis.enc)], .i k] (IsA (.tup [.agg [.i j.last, .sl 2 0 j.l.length], .ptr 2 k 0]) [.dead, .dead, .arv 3 (rowsM j.l k j.l[k].key (.sl 3 0 j.l[k].fl.length) (.sl 4 0 j.l[k].wt.length)), .arr 3 (j.l[k].fl.map Fet.enc), .arr 2 (j.l[k].wt.map Wai.enc)]) := by
 refine ok_of lw41 (by simp) ?_
 unfold c41
 have hne : j.l ≠ [] := by intro e; rw [e] at hk; simp at hk
 obtain ⟨hf1, hf2⟩ := hf _ (yD hk)
 simp -implicitDefEqProofs only [rX,↓rY,ofConst,cells?,↓reduceIte,Nat.reduceEqDiff,Nat.reduceAdd,freshP,cxN,yA,args0]
 refine call_isA [.bro 3 (j.l.map Mis.enc)] (.sl 0 0 j.l.length) (.sl 2 0 j.l.length) [.arv 3 (j.l.map Mis.enc)] [.arv 3 (j.l.map Mis.enc)] (ok40v j.l (by omega) hne) (by simp [lendsOk, lendOk, lends, lend, wkL, wk, wkB]) rfl (by simp only [vU, vV, renB, ren_rows]) trivial ?_
 simp -implicitDefEqProofs only [rX,↓rY,rdK,cells?,splice,↓reduceIte,Nat.reduceEqDiff,arrSz,Nat.reduceAdd,reduceCtorEq,isC,ms_1,ms_2,yO,yP,yA]
 refine ⟨⟨by omega, by omega⟩, hk, hk, ?_⟩
 refine call_isA [.bro 3 (j.l[k].fl.map Fet.enc)] (.sl 0 0 j.l[k].fl.length) (.sl 3 0 j.l[k].fl.length) [.arr 3 (j.l[k].fl.map Fet.enc)] [.arr 3 (j.l[k].fl.map Fet.enc)] (ok76 j.l[k].fl (by omega)) (by simp [lendsOk, lendOk, lends, lend, wkL, wk, wkB]) rfl rfl trivial ?_
 simp -implicitDefEqProofs only [rX,↓reduceIte,Nat.reduceEqDiff]
 refine call_isA [.bro 2 (j.l[k].wt.map Wai.enc)] (.sl 0 0 j.l[k].wt.length) (.sl 4 0 j.l[k].wt.length) [.arr 2 (j.l[k].wt.map Wai.enc)] [.arr 2 (j.l[k].wt.map Wai.enc)] (ok77 j.l[k].wt (by omega)) (by simp [lendsOk, lendOk, lends, lend, wkL, wk, wkB]) rfl rfl trivial ?_
 simp -implicitDefEqProofs only [rX,↓rY,cells?,splice,↓reduceIte,Nat.reduceEqDiff,Nat.reduceAdd,isC,Nat.reduceLeDiff,yO,yP,yA]
 have he : (((yC Mis.enc j.l).set k (yN 1 j.l[k].enc ++ [V.sl 3 0 j.l[k].fl.length] ++ vC 2 j.l[k].enc)).set k (yN 2 (((yC Mis.enc j.l).set k (yN 1 j.l[k].enc ++ [V.sl 3 0 j.l[k].fl.length] ++ vC 2 j.l[k].enc))[k]'(by simpa using hk)) ++ [V.sl 4 0 j.l[k].wt.length] ++ vC 3 (((yC Mis.enc j.l).set k (yN 1 j.l[k].enc ++ [V.sl 3 0 j.l[k].fl.length] ++ vC 2 j.l[k].enc))[k]'(by simpa using hk)))) = rowsM j.l k j.l[k].key (.sl 3 0 j.l[k].fl.length) (.sl 4 0 j.l[k].wt.length) := by
  rw [List.set_set, List.getElem_set_self]; rfl
 refine ⟨by simpa using hk, by simpa using hk, ?_⟩
 rw [he, retP_isA]
 have hwf := wf_rows (h := [.dead, .dead, .arv 3 (rowsM j.l k j.l[k].key (.sl 3 0 j.l[k].fl.length) (.sl 4 0 j.l[k].wt.length)), .arr 3 (j.l[k].fl.map Fet.enc), .arr 2 (j.l[k].wt.map Wai.enc)]) (l := j.l) (k := k) (key := j.l[k].key) (f := .sl 3 0 j.l[k].fl.length) (w := .sl 4 0 j.l[k].wt.length) trivial trivial
 simp -implicitDefEqProofs only [rX,↓rY,↓reduceIte,Nat.reduceEqDiff,Nat.reduceAdd,resP,tupV,leH,leB,keepP,liveP,wfB,wfV,wfL,Nat.reduceLeDiff,yP,yA]
 exact hwf
end Go.Fx.J
namespace Go.Fx.J
open Go Go.Fx Go.Proofs Go.Fx.R
set_option maxRecDepth 20000
theorem call_isQA {cx : Cx} {f : FuncId} {args : List V} {e : Env} {h : List Blk} {b : Nat} {K : V → St → Prop} {G : Type} (Q : G → Prop) (ι mv M : List Nat) (xs : List V) (x x' : G → V) (h0 : List Blk) (h1 h' : G → List Blk) (e' : Env) (hC : cx.C f xs h0 mv (IsQ Q x h1))
  (hι : ι.Nodup ∧ ∀ k ∈ ι, k < h.length ∧ k ∉ cx.bn) (hM : mv.filterMap (ι[·]?) = M ∧ ∀ j ∈ mv, ∀ k, ι[j]? = some k → k ∉ cx.fx) (r0 : ι.map (fun k => renB (pos ι) (blk h k)) = h0) (ha : lendsOk h (pos ι) args ∧ wkL xs (lends h (pos ι) args))
  (hh : ∀ g, setAll ι ((h1 g).map (renB (back ι h.length))) (h.map (killB M)) = h' g) (hx : ∀ g, ren (back ι h.length) (x g) = x' g) (he : killE M e = e') (keep : ∀ g, keepP cx.fx (h' g)) (h3 : ∀ g, Q g → K (x' g) ⟨e', h' g, b⟩) : callP cx f args ⟨e, h, b⟩ K := by
 refine call_isM Q ι mv M xs x h0 h1 hC hι hM r0 ha ?_
 intro g hg
 rw [hh, hx, he]
 exact ⟨keep g, h3 g hg⟩
abbrev hF (last : Int) (n : Nat) (L : List Mis) (k : Nat) (key : S) (fl : List Fet) (wt : List Wai) : List Blk := [.var [.i last, .sl 1 0 n], .arv 3 (rowsM L k key (.sl 2 0 fl.length) (wais wt)), .arr 3 (fl.map Fet.enc)]
theorem rowsM_len {l : List Mis} {k : Nat} {key : S} {f w : V} : (rowsM l k key f w).length = l.length := by simp [rowsM]
theorem rowsM_at {l : List Mis} {k : Nat} {key : S} {f w : V} (h : k < (rowsM l k key f w).length) : (rowsM l k key f w)[k] = [sv key, f, w] := by simp [rowsM, rowE]
theorem rowsM_set {l : List Mis} {k : Nat} {key : S} {f w : V} {x : List V} : (rowsM l k key f w).set k x = (l.map Mis.enc).set k x := by unfold rowsM; rw [List.set_set]
theorem rowsM_kill {l : List Mis} {k : Nat} {key : S} {f w : V} {M : List Nat} : (rowsM l k key f w).map (kills M) = rowsM l k key (kill M f) (kill M w) := by
 unfold rowsM
 rw [vK, vT]
 rfl
theorem rowsM_gv {l : List Mis} {k : Nat} {key : S} {f w : V} {M : Nat → Bool} {h : List Blk} : (rowsM l k key f w).map (gvL M h) = rowsM l k key (gvV M h f) (gvV M h w) := by
 unfold rowsM
 rw [vK, vT]
 rfl
theorem rowsM_ren {l : List Mis} {k : Nat} {key : S} {f w : V} {g : Nat → Option Nat} : (rowsM l k key f w).map (rens g) = rowsM l k key (ren g f) (ren g w) := by
 unfold rowsM
 rw [vK, vT]
 rfl
theorem newF_take {last : Int} {l : List Sp} {i : Nat} (h : i < l.length) : newF last (l.take (i + 1)) = newF last (l.take i) ++ [⟨last + i + 1, l[i]⟩] := by
 induction l generalizing last i with
 | nil => simp at h
 | cons s l ih =>
  cases i with
  | zero => simp [newF]
  | succ i =>
   have := ih (last := last + 1) (i := i) (by simpa using h)
   simp only [yP, newF, List.getElem_cons_succ, List.cons_append, this]
   rw [show last + 1 + (i : Int) + 1 = last + ((i + 1 : Nat) : Int) + 1 by omega]
theorem raw47 (last : Int) (n : Nat) (L : List Mis) (k : Nat) (hk : k < L.length) (key : S) (fl : List Fet) (wt : List Wai) (l : List Sp) (hb : -1000000000000000000 ≤ last ∧ last + l.length ≤ 2305843009213693952) (hl : l.length ≤ 1099511627776) (hfl : fl.length ≤ 1099511627776) :
  OkN Tryz.prog 47 [.ptr 0 0 0, .ptr 1 k 0, spans l] (hF last n L k key fl wt) [2] (IsQ (SrtF (fl ++ newF last l)) (fun _ => .sl 3 0 l.length) (fun d => [.var [.i (last + l.length), .sl 1 0 n], .arv 3 (rowsM L k key (.sl 2 0 (fl.length + l.length)) (wais wt)), .arr 3 (d.map Fet.enc), .arr 3 ((newF last l).map Fet.enc)])) := by
 refine okN_of pol [0, 1] lw47 (by simp) (by simp [keepP, liveP]) (by simp; omega) ?_
 unfold c47
 simp -implicitDefEqProofs only [rX,↓rY,ofConst,↓reduceIte,Nat.reduceEqDiff,Nat.reduceAdd,reduceCtorEq,cxN,args0]
 intro hm
 refine loopP_ghost (.virt 1 3 (by decide) (.nilE 7 3 rfl (.refl _))) (fun i : Nat => ⟨[(12, .i i), (11, .i l.length), (10, spans l), (7, .sl 3 0 i), (0, .ptr 0 0 0), (1, .ptr 1 k 0)], [.var [.i (last + i), .sl 1 0 n], .arv 3 (rowsM L k key (.sl 2 0 fl.length) (wais wt)), .arr 3 (fl.map Fet.enc), .arr 3 ((newF last (l.take i)).map Fet.enc)], 3⟩) (fun i => i ≤ l.length) (fun i => l.length - i) 0 (by omega) ?_ ?_
 ·simp -implicitDefEqProofs only [rX,↓reduceIte,Nat.reduceEqDiff,reduceCtorEq,leE,leH,leB,leV,leVs,keepP,liveP,wfE,wfB,wfV,wfL,yA,vD,newF,yV,Int.add_zero]
  exact wf_rows (by simp [wfV, liveP]) trivial
 rintro i hi0
 unfold c47l0
 rcases yI i l.length with hi' | hi'
 ·have hd : decide ((i : Int) < (l.length : Int)) = true := decide_eq_true (by omega)
  have hii : (0 : Int) ≤ i ∧ (i : Int) < l.length := ⟨by omega, by omega⟩
  have hnl : (newF last (l.take i)).length = i := by simp [newF_len]; omega
  simp -implicitDefEqProofs only [rX,↓rY,rdK,ofConst,cells?,splice,↓reduceIte,Nat.reduceEqDiff,Nat.reduceAdd,reduceCtorEq,freshP,buildP,litsP,leE,leH,leB,leV,leVs,keepP,liveP,wfE,wfB,wfV,wfL,killE,killB,kill,kills,St.kill,isD,isC,Nat.reduceLT,Nat.reduceLeDiff,enS_len,enS_take,enS_C,enS_D,enS_kill,yO,yP,yA,hd]
  refine ⟨hii, hi', by simp only [lo, hi]; omega, ⟨by omega, by omega⟩, by simp only [lo, hi]; omega, i + 1, ⟨hi', by omega⟩, ⟨by omega, rfl⟩, ⟨by omega, ?_, ?_⟩, ?_⟩
  ·rw [rowsM_kill]; rfl
  ·rw [newF_take hi', yK (by simp [hnl]), yX]
   rfl
  ·exact wf_rows (by simp [wfV, liveP]) trivial
 ·have hd : decide ((i : Int) < (l.length : Int)) = false := decide_eq_false (by omega)
  have hie : i = l.length := by omega
  subst hie
  simp -implicitDefEqProofs only [rX,↓rY,↓reduceIte,Nat.reduceEqDiff,Nat.reduceAdd,reduceCtorEq,yA,hd]
  have hk' : k < (rowsM L k key (.sl 2 0 fl.length) (wais wt)).length := by rw [rowsM_len]; exact hk
  refine ⟨hk', ?_⟩
  rw [rowsM_at hk', vF]
  simp -implicitDefEqProofs only [rX,↓rY,cells?,splice,↓reduceIte,Nat.reduceEqDiff,Nat.reduceAdd,reduceCtorEq,killE,killB,kill,kills,St.kill,isC,Nat.reduceLeDiff,yA,vW]
  have hnl : (newF last l).length = l.length := newF_len
  have ht : yN l.length (yC Fet.enc (newF last l)) = (newF last l).map Fet.enc := yK (by simp [hnl])
  have ht2 : yN fl.length (yC Fet.enc fl) = fl.map Fet.enc := yK (by simp)
  have hR : (yC (kills [2]) (rowsM L k key (.sl 2 0 fl.length) (wais wt))).set k (yN 1 (kills [2] (rowsM L k key (.sl 2 0 fl.length) (wais wt))[k]) ++ [.sl 2 0 (fl.length + l.length)] ++ vC 2 (kills [2] (rowsM L k key (.sl 2 0 fl.length) (wais wt))[k])) = rowsM L k key (.sl 2 0 (fl.length + l.length)) (wais wt) := by
   rw [rowsM_at hk', rowsM_kill, rowsM_set]
   simp [rowsM, rowE, kills, kill]
  simp -implicitDefEqProofs only [rX,ht,ht2,hR,hnl,or_true]
  have hk2 : k < (rowsM L k key (.sl 2 0 (fl.length + l.length)) (wais wt)).length := by rw [rowsM_len]; exact hk
  refine ⟨by omega, hk', hk2, ?_⟩
  rw [rowsM_at (by rw [rowsM_len]; exact hk), ← yX]
  simp -implicitDefEqProofs only [rX,↓rY,vW]
  have h85 := ok85 (fl ++ newF last l) (by simp [hnl]; omega)
  rw [yU, hnl] at h85
  refine call_isQA (SrtF (fl ++ newF last l)) [2] [] [] [.sl 0 0 (fl.length + l.length), .clo 86 []] (fun _ => .tup []) (fun _ => .tup []) [.arr 3 ((fl ++ newF last l).map Fet.enc)] (fun d => [.arr 3 (d.map Fet.enc)]) (fun d => [.var [.i (last + l.length), .sl 1 0 n], .arv 3 (rowsM L k key (.sl 2 0 (fl.length + l.length)) (wais wt)), .arr 3 (d.map Fet.enc), .arr 3 ((newF last l).map Fet.enc), .dead]) _ h85 (by simp) (by simp) rfl (by simp [lendsOk, lendOk, lends, lend, wkL, wk, wkB, pos]) (fun d => by simp only [vU, vV, renB, killB, rowsM_kill]; rfl) (fun _ => rfl) rfl (fun d => by simp [keepP, liveP]) ?_
  intro d hd
  simp -implicitDefEqProofs only [rX,↓reduceIte,Nat.reduceEqDiff,Nat.reduceAdd,killE,kill,St.kill]
  refine retP_isQ d hd ?_
  simp -implicitDefEqProofs only [rX,↓reduceIte,Nat.reduceAdd,resP,tupV,leH,leB,leV,leVs,keepP,liveP,wfB,wfV,wfL,Nat.reduceLeDiff,yA]
  exact wf_rows (by simp [wfV, liveP]) trivial
theorem ok47 (last : Int) (n : Nat) (L : List Mis) (k : Nat) (hk : k < L.length) (key : S) (fl : List Fet) (wt : List Wai) (l : List Sp) (hb : -1000000000000000000 ≤ last ∧ last + l.length ≤ 2305843009213693952) (hl : l.length ≤ 1099511627776) (hfl : fl.length ≤ 1099511627776) (hA : Apt (fl ++ newF last l)) (hs : Asc1 fl) :
  OkN Tryz.prog 47 [.ptr 0 0 0, .ptr 1 k 0, spans l] (hF last n L k key fl wt) [2] (IsA (fets (newF last l)) [.var [.i (last + l.length), .sl 1 0 n], .arv 3 (rowsM L k key (.sl 2 0 (fl.length + l.length)) (wais wt)), .arr 3 (((newF last l).foldl insF fl).map Fet.enc)]) := by
 have h := raw47 last n L k hk key fl wt l hb hl hfl
 refine ⟨h.1, Fn_ghostN [0, 1] (by simp; omega) (by simp) h.2 ?_⟩
 rintro r hs' ⟨d, hd, rfl, rfl⟩
 have hdd : d = (newF last l).foldl insF fl := sorted_one hA hd.p hd.s insFs_perm (insFs_asc hs)
 subst hdd
 refine ⟨⟨trivial, trivial, trivial⟩, _, _, ⟨rfl, rfl⟩, by simp, _, .give (fun k => k == 3) (by simp) (.refl _), ?_⟩
 have hw := wf_rows (h := [.var [.i (last + l.length), .sl 1 0 n], .arv 3 (rowsM L k key (.sl 2 0 (fl.length + l.length)) (wais wt)), .arr 3 (((newF last l).foldl insF fl).map Fet.enc)]) (l := L) (k := k) (key := key) (f := .sl 2 0 (fl.length + l.length)) (w := wais wt) (by simp [wfV, liveP]) trivial
 have hnl : (newF last l).length = l.length := newF_len
 have ht : yN l.length (yC Fet.enc (newF last l)) = (newF last l).map Fet.enc := yK (by simp [hnl])
 have hg : St.give (fun k => k == 3) ⟨[(0, .sl 3 0 l.length)], [.var [.i (last + l.length), .sl 1 0 n], .arv 3 (rowsM L k key (.sl 2 0 (fl.length + l.length)) (wais wt)), .arr 3 (((newF last l).foldl insF fl).map Fet.enc), .arr 3 ((newF last l).map Fet.enc)], 0⟩ = ⟨[(0, fets (newF last l))], [.var [.i (last + l.length), .sl 1 0 n], .arv 3 (rowsM L k key (.sl 2 0 (fl.length + l.length)) (wais wt)), .arr 3 (((newF last l).foldl insF fl).map Fet.enc), .dead], 0⟩ := by
  simp [St.give, gvE, gvH, gvB, gvL, gvV, rowsM_gv, blk, hnl, ht]
 rw [hg]
 simp -implicitDefEqProofs only [rX,↓reduceIte,leE,leH,leB,leV,leVs,keepP,liveP,wfE,wfB,wfV,wfL,yA]
 exact hw
end Go.Fx.J
namespace Go.Fx.J
open Go Go.Fx Go.Proofs Go.Fx.R
set_option maxRecDepth 20000
def hC (c : Blk) (o : List Int) : List Blk := [c, .var [.sl 2 0 o.length], .arr 1 (o.map encI)]
def addO (b : Bool) (id : Int) (o : List Int) : List Int := if b = true then o ++ [id] else o
def goF (need : List Sp) (f : Fet) : Bool := !common need f.sp
def goW (sp : Sp) (w : Wai) : Bool := common w.need sp
def hD (c : Blk) (o : List Int) (sz : Nat) (els : List (List V)) : List Blk := [c, .var [.sl 2 0 o.length], .arr 1 (o.map encI), .arr sz els]
def keptD {α : Type} (p : α → Bool) (l : List α) : List α := l.filter fun x => !p x
def outsD {α : Type} (p : α → Bool) (id : α → Int) (l : List α) : List Int := (l.filter p).map id
theorem keptD_len {α : Type} {p : α → Bool} {l : List α} : (keptD p l).length ≤ l.length := uX _ _
theorem outsD_len {α : Type} {p : α → Bool} {id : α → Int} {l : List α} : (outsD p id l).length ≤ l.length := by unfold outsD; rw [uH]; exact uX _ _
theorem del_step {α : Type} {p : α → Bool} {id : α → Int} {l : List α} {j : Nat} (h : j < l.length) : keptD p (l.take (j + 1)) = keptD p (l.take j) ++ (if p l[j] = true then [] else [l[j]]) ∧ outsD p id (l.take (j + 1)) = outsD p id (l.take j) ++ (if p l[j] = true then [id l[j]] else []) := by
 unfold keptD outsD
 rw [vL h, List.filter_append, List.filter_append, yX]
 cases h : p l[j] <;> simp [h]
theorem del_none {α : Type} {p : α → Bool} {id : α → Int} {l : List α} (h : ∀ j (hj : j < l.length), p l[j] = false) : keptD p l = l ∧ outsD p id l = [] := by
 have h' : ∀ x ∈ l, p x = false := fun x hx => by
  obtain ⟨j, hj, rfl⟩ := yJ hx
  exact h j hj
 refine ⟨List.filter_eq_self.2 fun x hx => by rw [h' x hx]; rfl, ?_⟩
 unfold outsD
 rw [List.filter_eq_nil_iff.2 fun x hx => by rw [h' x hx]; simp]
 rfl
def rowsD {α : Type} (p : α → Bool) (l : List α) (j : Nat) : List α := keptD p (l.take j) ++ l.drop (keptD p (l.take j)).length
theorem keptD_take {α : Type} {p : α → Bool} {l : List α} {j : Nat} : (keptD p (l.take j)).length ≤ j := uN keptD_len (by simp; omega)
theorem rowsD_len {α : Type} {p : α → Bool} {l : List α} {j : Nat} (hj : j ≤ l.length) : (rowsD p l j).length = l.length := by
 have := keptD_take (p := p) (l := l) (j := j)
 unfold rowsD
 simp
 omega
theorem rowsD_at {α : Type} {p : α → Bool} {l : List α} {j : Nat} (hj : j < l.length) : (rowsD p l j)[j]'(by rw [rowsD_len (by omega)]; exact hj) = l[j] := by
 have := keptD_take (p := p) (l := l) (j := j)
 unfold rowsD
 rw [List.getElem_append_right this, List.getElem_drop]
 congr 1
 omega
theorem rowsD_yes {α : Type} {p : α → Bool} {l : List α} {j : Nat} (hj : j < l.length) (h : p l[j] = true) : rowsD p l (j + 1) = rowsD p l j := by
 unfold rowsD
 rw [(del_step (id := fun _ => 0) hj).1, if_pos h, yQ]
theorem rowsD_no {α : Type} {p : α → Bool} {l : List α} {j : Nat} (hj : j < l.length) (h : p l[j] = false) : rowsD p l (j + 1) = (rowsD p l j).set (keptD p (l.take j)).length l[j] := by
 have := keptD_take (p := p) (l := l) (j := j)
 have hd := List.drop_eq_getElem_cons (l := l) (i := (keptD p (l.take j)).length) (by omega)
 unfold rowsD
 rw [(del_step (id := fun _ => 0) hj).1, h, if_neg (by simp), yU, uU _ _ (yE _), uT, hd, List.set_cons_zero, yZ]
 rfl
theorem rowsD_end {α : Type} {p : α → Bool} {l : List α} {g : α → List V} : ((rowsD p l l.length).map g).take (keptD p l).length = (keptD p l).map g ∧ ((rowsD p l l.length).map g).drop ((keptD p l).length + (l.length - (keptD p l).length)) = [] := by
 have := rowsD_len (p := p) (l := l) (yE _)
 have hk := keptD_len (p := p) (l := l)
 refine ⟨?_, List.drop_eq_nil_of_le (by rw [uH]; omega)⟩
 unfold rowsD
 rw [vF, ← uS, List.take_left]
theorem rowsD_start {α : Type} {p : α → Bool} {l : List α} {k : Nat} (hk : k < l.length) (h : p l[k] = true) (hno : ∀ j (hj : j < l.length), j < k → p l[j] = false) (id : α → Int) : keptD p (l.take (k + 1)) = l.take k ∧ rowsD p l (k + 1) = l ∧ outsD p id (l.take (k + 1)) = [id l[k]] := by
 have hn := del_none (p := p) (id := id) (l := l.take k) fun j hj => by
  rw [List.getElem_take]
  exact hno j (by simp at hj; omega) (by simp at hj; omega)
 have hs := del_step (p := p) (id := id) hk
 rw [if_pos h, if_pos h, hn.1, hn.2, yQ, List.nil_append] at hs
 refine ⟨hs.1, ?_, hs.2⟩
 unfold rowsD
 rw [hs.1, vX (by omega), List.take_append_drop]
theorem ok90 (x : Fet) (need : List Sp) (o : List Int) (ho : o.length ≤ 8796093022208) (hn : Vd need) (hx : Vd [x.sp]) :
  OkN Tryz.prog 90 [.agg x.enc, .ptr 0 0 0, .ptr 1 0 0] (hC (.var [spans need]) o) [2] (IsA (.b (goF need x)) (hC (.var [spans need]) (addO (goF need x) x.id o))) := by
 refine okN_of pol [0, 1] lw90 (by simp) ⟨trivial, trivial, trivial⟩ (by simp [hC]; omega) ?_
 unfold c90 hC goF
 simp -implicitDefEqProofs only [rX,↓rY,ofConst,cells?,↓reduceIte,Nat.reduceEqDiff,Nat.reduceAdd,reduceCtorEq,freshP,cxN,yO,yP,yA,args0,Fet.enc]
 refine call_is (ok64 need x.sp hn hx) (by simp [lendsOk, lendOk, lends, lend, wkL, wk, wkR, enS]) rfl ⟨trivial, trivial, trivial⟩ ?_
 cases h : common need x.sp with
 | true =>
  simp -implicitDefEqProofs only [rX,↓rY,ofConst,↓reduceIte,Nat.reduceAdd,resP,tupV,leH,leB,leV,leVs,keepP,liveP,wfB,wfV,wfL,retP_isA,addO]
 | false =>
  simp -implicitDefEqProofs only [rX,↓rY,ofConst,cells?,splice,↓reduceIte,Nat.reduceEqDiff,Nat.reduceAdd,reduceCtorEq,freshP,litsP,resP,tupV,leH,leB,leV,leVs,keepP,liveP,wfB,wfV,wfL,killE,killB,kill,kills,St.kill,isD,isC,Nat.reduceLT,yO,yP,yA,retP_isA,addO]
  exact ⟨by omega, by rw [yK (by simp), yX]; rfl⟩
theorem ok92c (l : List Fet) (need : List Sp) (o : List Int) (ho : o.length + 1 ≤ 8796093022208) (hn : Vd need) (hx : ∀ x ∈ l, Vd [x.sp]) :
  OkN Tryz.prog 92 [.bro 3 (l.map Fet.enc), .clo 90 [.ptr 0 0 0, .ptr 1 0 0]] (hC (.var [spans need]) o) [2] (IsA (.i (fstI (goF need) l)) (hC (.var [spans need]) (o ++ ((l.find? (goF need)).map Fet.id).toList))) := by
 refine okN_of pol [0, 1] lw92 (by simp) ⟨trivial, trivial, trivial⟩ (by simp [hC]; omega) ?_
 unfold c92 hC
 simp -implicitDefEqProofs only [rX,↓rY,ofConst,↓reduceIte,Nat.reduceAdd,reduceCtorEq,cxN,args0]
 intro hm
 refine loopP_intro (fun k : Nat => ⟨[(8, .i k), (7, .i l.length), (1, .clo 90 [.ptr 0 0 0, .ptr 1 0 0]), (0, .bro 3 (l.map Fet.enc))], hC (.var [spans need]) o, 3⟩) (fun k => k ≤ l.length ∧ ∀ j (h : j < l.length), j < k → (goF need) l[j] = false) (fun k => l.length - k) 0 ⟨by omega, fun _ _ h => by omega⟩ ?_ ?_
 ·unfold hC
  simp -implicitDefEqProofs only [rX,↓reduceIte,Nat.reduceEqDiff,reduceCtorEq,leE,leH,leB,leV,leVs,keepP,liveP,wfE,wfB,wfV,wfL,yV]
 rintro k ⟨hk, hno⟩
 unfold c92l0 hC
 rcases yI k l.length with hk' | hk'
 ·have hd : decide ((k : Int) < (l.length : Int)) = true := decide_eq_true (by omega)
  have hkk : (0 : Int) ≤ k ∧ (k : Int) < l.length := ⟨by omega, by omega⟩
  simp -implicitDefEqProofs only [rX,↓rY,↓reduceIte,Nat.reduceEqDiff,Nat.reduceAdd,reduceCtorEq,ft_len,ft_t,yA,hd]
  refine ⟨hkk, hk', ?_⟩
  refine call_isMA [0, 1, 2] [2] [2] [.agg l[k].enc, .ptr 0 0 0, .ptr 1 0 0] (.b ((goF need) l[k])) (.b ((goF need) l[k])) (hC (.var [spans need]) o) (hC (.var [spans need]) (addO ((goF need) l[k]) l[k].id o)) (hC (.var [spans need]) (addO ((goF need) l[k]) l[k].id o)) _ (ok90 l[k] need o (by omega) hn (hx _ (yD hk'))) (by simp) (by simp) rfl (by simp [lendsOk, lendOk, lends, lend, wkL, wk, wkR, pos, Fet.enc]) rfl rfl rfl ⟨trivial, trivial, trivial⟩ ?_
  cases h : (goF need) l[k] with
  | true =>
   have hf := fst_yes hk' h hno
   have hf2 : l.find? (goF need) = some l[k] := uI.2 ⟨h, k, hk', rfl, fun j hj => by rw [hno j (by omega) hj]; rfl⟩
   unfold hC
   simp -implicitDefEqProofs only [rX,↓rY,↓reduceIte,Nat.reduceEqDiff,Nat.reduceAdd,reduceCtorEq,resP,tupV,leH,leB,leV,leVs,keepP,liveP,wfB,wfV,wfL,killE,kill,kills,St.kill,ft_k,retP_isA,hf,hf2,addO,uJ]
  | false =>
   unfold hC
   simp -implicitDefEqProofs only [rX,↓rY,ofConst,↓reduceIte,Nat.reduceEqDiff,Nat.reduceAdd,reduceCtorEq,leE,leH,leB,leV,leVs,keepP,liveP,wfE,wfB,wfV,wfL,killE,kill,kills,St.kill,ft_k,yA,addO]
   exact ⟨by simp only [lo, hi, maxLen] at *; omega, k + 1, ⟨⟨by omega, fun j hj hlt => by
    by_cases e : j = k
    ·subst e; exact h
    ·exact hno j hj (by omega)⟩, by omega⟩, by simp⟩
 ·have hd : decide ((k : Int) < (l.length : Int)) = false := decide_eq_false (by omega)
  have hf := fst_no (p := goF need) (l := l) fun j hj => hno j hj (by omega)
  have hf2 : l.find? (goF need) = none := uK.2 fun x hx => by
   obtain ⟨j, hj, rfl⟩ := yJ hx
   rw [hno j hj (by omega)]; simp
  simp -implicitDefEqProofs only [rX,↓rY,ofConst,↓reduceIte,Nat.reduceEqDiff,Nat.reduceAdd,resP,tupV,leH,leB,leV,leVs,keepP,liveP,wfB,wfV,wfL,hd,retP_isA,hf,hf2,uL]
theorem raw89 (l : List Fet) (need : List Sp) (o : List Int) (hl : l.length ≤ 2199023255552) (ho : o.length + l.length ≤ 4398046511104) (hn : Vd need) (hx : ∀ x ∈ l, Vd [x.sp]) :
  OkN Tryz.prog 89 [.sl 3 0 l.length, .clo 90 [.ptr 0 0 0, .ptr 1 0 0]] (hD (.var [spans need]) o 3 (l.map Fet.enc)) [2] (IsA (.sl 3 0 (keptD (goF need) l).length) (hD (.var [spans need]) (o ++ outsD (goF need) Fet.id l) 3 ((keptD (goF need) l).map Fet.enc ++ vY (l.length - (keptD (goF need) l).length) [.i 0, .i 0, .i 0]))) := by
 refine okN_of pol [0, 1, 3] lw89 (by simp) ⟨trivial, trivial, trivial, trivial⟩ (by simp [hD]; omega) ?_
 unfold c89 hD
 have htl : yN l.length (yC Fet.enc l) = yC Fet.enc l := yK (by simp)
 simp -implicitDefEqProofs only [rX,ofConst,↓reduceIte,Nat.reduceEqDiff,Nat.reduceAdd,reduceCtorEq,cxN,args0]
 refine call_isMA [0, 1, 2] [2] [2] [.bro 3 (l.map Fet.enc), .clo 90 [.ptr 0 0 0, .ptr 1 0 0]] (.i (fstI (goF need) l)) (.i (fstI (goF need) l)) (hC (.var [spans need]) o) (hC (.var [spans need]) (o ++ ((l.find? (goF need)).map Fet.id).toList)) (hD (.var [spans need]) (o ++ ((l.find? (goF need)).map Fet.id).toList) 3 (l.map Fet.enc)) _ (ok92c l need o (by omega) hn hx) (by simp) (by simp) rfl (by simp [lendsOk, lendOk, lends, lend, wkL, wk, wkR, wkB, pos, blk, htl]) rfl rfl rfl ⟨trivial, trivial, trivial, trivial⟩ ?_
 by_cases hany : ∃ k, ∃ hk : k < l.length, (goF need) l[k] = true ∧ ∀ j (hj : j < l.length), j < k → (goF need) l[j] = false
 ·obtain ⟨k, hk, hp, hno⟩ := hany
  have hf := fst_yes hk hp hno
  have hf2 : l.find? (goF need) = some l[k] := uI.2 ⟨hp, k, hk, rfl, fun j hj => by rw [hno j (by omega) hj]; rfl⟩
  obtain ⟨s1, s2, s3⟩ := rowsD_start hk hp hno Fet.id
  have hne : (((k : Int)) == -1) = false := by simp
  unfold hD
  simp -implicitDefEqProofs only [rX,↓rY,ofConst,↓reduceIte,Nat.reduceEqDiff,Nat.reduceAdd,reduceCtorEq,killE,kill,kills,St.kill,yA,hf,hf2,hne,uJ]
  refine ⟨by simp only [lo, hi]; omega, ?_⟩
  refine loopP_intro (fun j : Nat => ⟨[(6, .i j), (5, .i (keptD (goF need) (l.take j)).length), (0, .sl 3 0 l.length), (1, .clo 90 [.ptr 0 0 0, .ptr 1 0 0])], hD (.var [spans need]) (o ++ outsD (goF need) Fet.id (l.take j)) 3 ((rowsD (goF need) l j).map Fet.enc), 4⟩) (fun j => j ≤ l.length) (fun j => l.length - j) (k + 1) (by omega) ?_ ?_
  ·unfold hD
   simp -implicitDefEqProofs only [rX,↓reduceIte,Nat.reduceEqDiff,reduceCtorEq,leE,leH,leB,leV,leVs,keepP,liveP,wfE,wfB,wfV,wfL,yA,s1,s2,s3,vX (uP hk)]
   omega
  rintro j hj
  unfold c89l0 hD
  have hkt := keptD_take (p := goF need) (l := l) (j := j)
  have hrl := rowsD_len (p := goF need) hj
  rcases yI j l.length with hj' | hj'
  ·have hd : decide ((j : Int) < (l.length : Int)) = true := decide_eq_true (by omega)
   have hjj : (0 : Int) ≤ j ∧ (j : Int) < l.length := ⟨by omega, by omega⟩
   obtain ⟨t1, t2⟩ := del_step (p := goF need) (id := Fet.id) hj'
   have hol := outsD_len (p := goF need) (id := Fet.id) (l := l.take j)
   rw [vX hj] at hol
   simp -implicitDefEqProofs only [rX,↓rY,ofConst,cells?,splice,↓reduceIte,Nat.reduceEqDiff,arrSz,Nat.reduceAdd,reduceCtorEq,freshP,ft_len,ft_t,ft_C,yO,yA,hd]
   intro hm
   refine ⟨hjj, by rw [hrl]; exact hj', ?_⟩
   rw [rowsD_at hj']
   refine call_isMA [0, 1, 2] [2] [2] [.agg l[j].enc, .ptr 0 0 0, .ptr 1 0 0] (.b ((goF need) l[j])) (.b ((goF need) l[j])) (hC (.var [spans need]) (o ++ outsD (goF need) Fet.id (l.take j))) (hC (.var [spans need]) (addO ((goF need) l[j]) l[j].id (o ++ outsD (goF need) Fet.id (l.take j)))) (hD (.var [spans need]) (addO ((goF need) l[j]) l[j].id (o ++ outsD (goF need) Fet.id (l.take j))) 3 ((rowsD (goF need) l j).map Fet.enc) ++ [.var l[j].enc]) _ (ok90 l[j] need (o ++ outsD (goF need) Fet.id (l.take j)) (by rw [yU]; omega) hn (hx _ (yD hj'))) (by simp) (by simp) (by simp [hC, blk, renB, rens, ren, pos, enS]) (by simp [lendsOk, lendOk, lends, lend, wkL, wk, wkR, pos, Fet.enc]) (by simp [hC, hD, setAll, renB, rens, ren, back, pos, killB, kills, kill, Fet.enc]) rfl rfl (by simp [hD, keepP, liveP]) ?_
   cases h : (goF need) l[j] with
   | true =>
    rw [if_pos h, yQ] at t1
    rw [if_pos h] at t2
    have hy := rowsD_yes hj' h
    unfold hD
    simp -implicitDefEqProofs only [rX,↓rY,ofConst,↓reduceIte,Nat.reduceEqDiff,Nat.reduceAdd,reduceCtorEq,leE,leH,leB,leV,leVs,keepP,liveP,wfE,wfB,wfV,wfL,killE,kill,kills,St.kill,ft_k,yA,addO]
    exact ⟨by simp only [lo, hi]; omega, j + 1, ⟨hj', by omega⟩, ⟨by omega, by rw [t1]⟩, by rw [t2, yU]; rfl, by rw [t2, yZ], by rw [hy]⟩
   | false =>
    rw [h, if_neg (by simp)] at t1
    rw [h, if_neg (by simp), yQ] at t2
    have hy := rowsD_no hj' h
    unfold hD
    simp -implicitDefEqProofs only [rX,↓rY,ofConst,cells?,splice,↓reduceIte,Nat.reduceEqDiff,arrSz,Nat.reduceAdd,reduceCtorEq,leE,leH,leB,leV,leVs,keepP,liveP,wfE,wfB,wfV,wfL,killE,kill,kills,St.kill,ft_len,ft_t,ft_C,ft_D,ft_k,yA,addO]
    exact ⟨⟨by omega, by omega⟩, by rw [hrl]; omega, by simp only [lo, hi]; omega, by simp only [lo, hi]; omega, j + 1, ⟨hj', by omega⟩, ⟨by omega, by rw [t1, yU]; rfl⟩, by rw [t2], by rw [t2], by rw [hy, vK, show vC 3 ((rowsD (goF need) l j)[(keptD (goF need) (l.take j)).length]'(by rw [hrl]; omega)).enc = [] from rfl, yQ]⟩
  ·have hd : decide ((j : Int) < (l.length : Int)) = false := decide_eq_false (by omega)
   have hje : j = l.length := by omega
   subst hje
   obtain ⟨n1, n2⟩ := rowsD_end (p := goF need) (l := l)
   simp -implicitDefEqProofs only [rX,↓rY,↓reduceIte,Nat.reduceEqDiff,arrSz,Nat.reduceAdd,reduceCtorEq,slcOk,yA,hd]
   intro hm
   rw [vF] at hkt ⊢
   refine ⟨⟨⟨by omega, by omega⟩, by omega⟩, by rw [hrl]; omega, ⟨⟨by omega, by omega⟩, by omega, by omega⟩, ?_⟩
   rw [retP_isA, n1, n2]
   simp -implicitDefEqProofs only [rX,↓reduceIte,Nat.reduceAdd,resP,tupV,leH,leB,leV,leVs,keepP,liveP,wfB,wfV,wfL,Int.toNat_zero,Nat.sub_zero]
 ·have hno : ∀ j (hj : j < l.length), (goF need) l[j] = false := by
   intro j
   induction j using Nat.strongRecOn with
   | ind j ih =>
    intro hj
    cases h : (goF need) l[j] with
    | false => rfl
    | true => exact absurd ⟨j, hj, h, fun i hi hlt => ih i hlt hi⟩ hany
  have hf := fst_no (p := goF need) (l := l) hno
  have hf2 : l.find? (goF need) = none := uK.2 fun x hx => by
   obtain ⟨j, hj, rfl⟩ := yJ hx
   rw [hno j hj]; simp
  obtain ⟨e1, e2⟩ := del_none (id := Fet.id) hno
  have hme : ((-1 : Int) == -1) = true := rfl
  unfold hD
  simp -implicitDefEqProofs only [rX,↓rY,ofConst,↓reduceIte,Nat.reduceEqDiff,Nat.reduceAdd,reduceCtorEq,resP,tupV,leH,leB,leV,leVs,keepP,liveP,wfB,wfV,wfL,killE,kill,kills,St.kill,yA,hf,hf2,hme,uL,retP_isA,e1,e2,uT]
theorem ok63 (x : Wai) (sp : Sp) (o : List Int) (ho : o.length ≤ 8796093022208) (hn : Vd [sp]) (hx : Vd x.need) :
  OkN Tryz.prog 63 [.agg x.enc, .ptr 0 0 0, .ptr 1 0 0] (hC (.var [.i sp.1, .i sp.2]) o) [2] (IsA (.b (goW sp x)) (hC (.var [.i sp.1, .i sp.2]) (addO (goW sp x) x.id o))) := by
 refine okN_of pol [0, 1] lw63 (by simp) ⟨trivial, trivial, trivial⟩ (by simp [hC]; omega) ?_
 unfold c63 hC goW
 simp -implicitDefEqProofs only [rX,↓rY,ofConst,cells?,↓reduceIte,Nat.reduceEqDiff,Nat.reduceAdd,reduceCtorEq,freshP,cxN,yP,yA,args0,Wai.enc]
 refine call_is (ok64 x.need sp hx hn) (by simp [lendsOk, lendOk, lends, lend, wkL, wk, wkR, enS]) rfl ⟨trivial, trivial, trivial⟩ ?_
 cases h : common x.need sp with
 | false =>
  simp -implicitDefEqProofs only [rX,↓rY,ofConst,↓reduceIte,Nat.reduceAdd,resP,tupV,leH,leB,leV,leVs,keepP,liveP,wfB,wfV,wfL,retP_isA,addO]
 | true =>
  simp -implicitDefEqProofs only [rX,↓rY,ofConst,cells?,splice,↓reduceIte,Nat.reduceEqDiff,Nat.reduceAdd,reduceCtorEq,freshP,litsP,resP,tupV,leH,leB,leV,leVs,keepP,liveP,wfB,wfV,wfL,killE,killB,kill,kills,St.kill,isD,isC,Nat.reduceLT,yO,yP,yA,retP_isA,addO]
  exact ⟨by omega, by rw [yK (by simp), yX]; rfl⟩
theorem ok95c (l : List Wai) (sp : Sp) (o : List Int) (ho : o.length + 1 ≤ 8796093022208) (hn : Vd [sp]) (hx : ∀ x ∈ l, Vd x.need) :
  OkN Tryz.prog 95 [.bro 2 (l.map Wai.enc), .clo 63 [.ptr 0 0 0, .ptr 1 0 0]] (hC (.var [.i sp.1, .i sp.2]) o) [2] (IsA (.i (fstI (goW sp) l)) (hC (.var [.i sp.1, .i sp.2]) (o ++ ((l.find? (goW sp)).map Wai.id).toList))) := by
 refine okN_of pol [0, 1] lw95 (by simp) ⟨trivial, trivial, trivial⟩ (by simp [hC]; omega) ?_
 unfold c95 hC
 simp -implicitDefEqProofs only [rX,↓rY,ofConst,↓reduceIte,Nat.reduceAdd,reduceCtorEq,cxN,args0]
 intro hm
 refine loopP_intro (fun k : Nat => ⟨[(8, .i k), (7, .i l.length), (1, .clo 63 [.ptr 0 0 0, .ptr 1 0 0]), (0, .bro 2 (l.map Wai.enc))], hC (.var [.i sp.1, .i sp.2]) o, 3⟩) (fun k => k ≤ l.length ∧ ∀ j (h : j < l.length), j < k → (goW sp) l[j] = false) (fun k => l.length - k) 0 ⟨by omega, fun _ _ h => by omega⟩ ?_ ?_
 ·unfold hC
  simp -implicitDefEqProofs only [rX,↓reduceIte,Nat.reduceEqDiff,reduceCtorEq,leE,leH,leB,leV,leVs,keepP,liveP,wfE,wfB,wfV,wfL,yV]
 rintro k ⟨hk, hno⟩
 unfold c95l0 hC
 rcases yI k l.length with hk' | hk'
 ·have hd : decide ((k : Int) < (l.length : Int)) = true := decide_eq_true (by omega)
  have hkk : (0 : Int) ≤ k ∧ (k : Int) < l.length := ⟨by omega, by omega⟩
  simp -implicitDefEqProofs only [rX,↓rY,↓reduceIte,Nat.reduceEqDiff,Nat.reduceAdd,reduceCtorEq,wt_len,wt_t,yA,hd]
  refine ⟨hkk, hk', ?_⟩
  refine call_isMA [0, 1, 2] [2] [2] [.agg l[k].enc, .ptr 0 0 0, .ptr 1 0 0] (.b ((goW sp) l[k])) (.b ((goW sp) l[k])) (hC (.var [.i sp.1, .i sp.2]) o) (hC (.var [.i sp.1, .i sp.2]) (addO ((goW sp) l[k]) l[k].id o)) (hC (.var [.i sp.1, .i sp.2]) (addO ((goW sp) l[k]) l[k].id o)) _ (ok63 l[k] sp o (by omega) hn (hx _ (yD hk'))) (by simp) (by simp) rfl (by simp [lendsOk, lendOk, lends, lend, wkL, wk, wkR, pos, Wai.enc]) rfl rfl rfl ⟨trivial, trivial, trivial⟩ ?_
  cases h : (goW sp) l[k] with
  | true =>
   have hf := fst_yes hk' h hno
   have hf2 : l.find? (goW sp) = some l[k] := uI.2 ⟨h, k, hk', rfl, fun j hj => by rw [hno j (by omega) hj]; rfl⟩
   unfold hC
   simp -implicitDefEqProofs only [rX,↓rY,↓reduceIte,Nat.reduceEqDiff,Nat.reduceAdd,reduceCtorEq,resP,tupV,leH,leB,leV,leVs,keepP,liveP,wfB,wfV,wfL,killE,kill,kills,St.kill,wt_k,retP_isA,hf,hf2,addO,uJ]
  | false =>
   unfold hC
   simp -implicitDefEqProofs only [rX,↓rY,ofConst,↓reduceIte,Nat.reduceEqDiff,Nat.reduceAdd,reduceCtorEq,leE,leH,leB,leV,leVs,keepP,liveP,wfE,wfB,wfV,wfL,killE,kill,kills,St.kill,wt_k,yA,addO]
   exact ⟨by simp only [lo, hi, maxLen] at *; omega, k + 1, ⟨⟨by omega, fun j hj hlt => by
    by_cases e : j = k
    ·subst e; exact h
    ·exact hno j hj (by omega)⟩, by omega⟩, by simp⟩
 ·have hd : decide ((k : Int) < (l.length : Int)) = false := decide_eq_false (by omega)
  have hf := fst_no (p := goW sp) (l := l) fun j hj => hno j hj (by omega)
  have hf2 : l.find? (goW sp) = none := uK.2 fun x hx => by
   obtain ⟨j, hj, rfl⟩ := yJ hx
   rw [hno j hj (by omega)]; simp
  simp -implicitDefEqProofs only [rX,↓rY,ofConst,↓reduceIte,Nat.reduceEqDiff,Nat.reduceAdd,resP,tupV,leH,leB,leV,leVs,keepP,liveP,wfB,wfV,wfL,hd,retP_isA,hf,hf2,uL]
theorem raw62 (l : List Wai) (sp : Sp) (o : List Int) (hl : l.length ≤ 2199023255552) (ho : o.length + l.length ≤ 4398046511104) (hn : Vd [sp]) (hx : ∀ x ∈ l, Vd x.need) :
  OkN Tryz.prog 62 [.sl 3 0 l.length, .clo 63 [.ptr 0 0 0, .ptr 1 0 0]] (hD (.var [.i sp.1, .i sp.2]) o 2 (l.map Wai.enc)) [2] (IsA (.sl 3 0 (keptD (goW sp) l).length) (hD (.var [.i sp.1, .i sp.2]) (o ++ outsD (goW sp) Wai.id l) 2 ((keptD (goW sp) l).map Wai.enc ++ vY (l.length - (keptD (goW sp) l).length) [.i 0, .nil]))) := by
 refine okN_of pol [0, 1, 3] lw62 (by simp) ⟨trivial, trivial, trivial, trivial⟩ (by simp [hD]; omega) ?_
 unfold c62 hD
 have htl : yN l.length (yC Wai.enc l) = yC Wai.enc l := yK (by simp)
 simp -implicitDefEqProofs only [rX,ofConst,↓reduceIte,Nat.reduceEqDiff,Nat.reduceAdd,reduceCtorEq,cxN,args0]
 refine call_isMA [0, 1, 2] [2] [2] [.bro 2 (l.map Wai.enc), .clo 63 [.ptr 0 0 0, .ptr 1 0 0]] (.i (fstI (goW sp) l)) (.i (fstI (goW sp) l)) (hC (.var [.i sp.1, .i sp.2]) o) (hC (.var [.i sp.1, .i sp.2]) (o ++ ((l.find? (goW sp)).map Wai.id).toList)) (hD (.var [.i sp.1, .i sp.2]) (o ++ ((l.find? (goW sp)).map Wai.id).toList) 2 (l.map Wai.enc)) _ (ok95c l sp o (by omega) hn hx) (by simp) (by simp) rfl (by simp [lendsOk, lendOk, lends, lend, wkL, wk, wkR, wkB, pos, blk, htl]) rfl rfl rfl ⟨trivial, trivial, trivial, trivial⟩ ?_
 by_cases hany : ∃ k, ∃ hk : k < l.length, (goW sp) l[k] = true ∧ ∀ j (hj : j < l.length), j < k → (goW sp) l[j] = false
 ·obtain ⟨k, hk, hp, hno⟩ := hany
  have hf := fst_yes hk hp hno
  have hf2 : l.find? (goW sp) = some l[k] := uI.2 ⟨hp, k, hk, rfl, fun j hj => by rw [hno j (by omega) hj]; rfl⟩
  obtain ⟨s1, s2, s3⟩ := rowsD_start hk hp hno Wai.id
  have hne : (((k : Int)) == -1) = false := by simp
  unfold hD
  simp -implicitDefEqProofs only [rX,↓rY,ofConst,↓reduceIte,Nat.reduceEqDiff,Nat.reduceAdd,reduceCtorEq,killE,kill,kills,St.kill,yA,hf,hf2,hne,uJ]
  refine ⟨by simp only [lo, hi]; omega, ?_⟩
  refine loopP_intro (fun j : Nat => ⟨[(6, .i j), (5, .i (keptD (goW sp) (l.take j)).length), (0, .sl 3 0 l.length), (1, .clo 63 [.ptr 0 0 0, .ptr 1 0 0])], hD (.var [.i sp.1, .i sp.2]) (o ++ outsD (goW sp) Wai.id (l.take j)) 2 ((rowsD (goW sp) l j).map Wai.enc), 4⟩) (fun j => j ≤ l.length) (fun j => l.length - j) (k + 1) (by omega) ?_ ?_
  ·unfold hD
   simp -implicitDefEqProofs only [rX,↓reduceIte,Nat.reduceEqDiff,reduceCtorEq,leE,leH,leB,leV,leVs,keepP,liveP,wfE,wfB,wfV,wfL,yA,s1,s2,s3,vX (uP hk)]
   omega
  rintro j hj
  unfold c62l0 hD
  have hkt := keptD_take (p := goW sp) (l := l) (j := j)
  have hrl := rowsD_len (p := goW sp) hj
  rcases yI j l.length with hj' | hj'
  ·have hd : decide ((j : Int) < (l.length : Int)) = true := decide_eq_true (by omega)
   have hjj : (0 : Int) ≤ j ∧ (j : Int) < l.length := ⟨by omega, by omega⟩
   obtain ⟨t1, t2⟩ := del_step (p := goW sp) (id := Wai.id) hj'
   have hol := outsD_len (p := goW sp) (id := Wai.id) (l := l.take j)
   rw [vX hj] at hol
   simp -implicitDefEqProofs only [rX,↓rY,ofConst,cells?,splice,↓reduceIte,Nat.reduceEqDiff,arrSz,Nat.reduceAdd,reduceCtorEq,freshP,wt_len,wt_t,wt_C,yO,yA,hd]
   intro hm
   refine ⟨hjj, by rw [hrl]; exact hj', ?_⟩
   rw [rowsD_at hj']
   refine call_isMA [0, 1, 2] [2] [2] [.agg l[j].enc, .ptr 0 0 0, .ptr 1 0 0] (.b ((goW sp) l[j])) (.b ((goW sp) l[j])) (hC (.var [.i sp.1, .i sp.2]) (o ++ outsD (goW sp) Wai.id (l.take j))) (hC (.var [.i sp.1, .i sp.2]) (addO ((goW sp) l[j]) l[j].id (o ++ outsD (goW sp) Wai.id (l.take j)))) (hD (.var [.i sp.1, .i sp.2]) (addO ((goW sp) l[j]) l[j].id (o ++ outsD (goW sp) Wai.id (l.take j))) 2 ((rowsD (goW sp) l j).map Wai.enc) ++ [.var l[j].enc]) _ (ok63 l[j] sp (o ++ outsD (goW sp) Wai.id (l.take j)) (by rw [yU]; omega) hn (hx _ (yD hj'))) (by simp) (by simp) (by simp [hC, blk, renB, rens, ren, pos, enS]) (by simp [lendsOk, lendOk, lends, lend, wkL, wk, wkR, pos, Wai.enc]) (by simp [hC, hD, setAll, renB, rens, ren, back, pos, killB, kills, kill, Wai.enc]) rfl rfl (by simp [hD, keepP, liveP]) ?_
   cases h : (goW sp) l[j] with
   | true =>
    rw [if_pos h, yQ] at t1
    rw [if_pos h] at t2
    have hy := rowsD_yes hj' h
    unfold hD
    simp -implicitDefEqProofs only [rX,↓rY,ofConst,↓reduceIte,Nat.reduceEqDiff,Nat.reduceAdd,reduceCtorEq,leE,leH,leB,leV,leVs,keepP,liveP,wfE,wfB,wfV,wfL,killE,kill,kills,St.kill,wt_k,yA,addO]
    exact ⟨by simp only [lo, hi]; omega, j + 1, ⟨hj', by omega⟩, ⟨by omega, by rw [t1]⟩, by rw [t2, yU]; rfl, by rw [t2, yZ], by rw [hy]⟩
   | false =>
    rw [h, if_neg (by simp)] at t1
    rw [h, if_neg (by simp), yQ] at t2
    have hy := rowsD_no hj' h
    unfold hD
    simp -implicitDefEqProofs only [rX,↓rY,ofConst,cells?,splice,↓reduceIte,Nat.reduceEqDiff,arrSz,Nat.reduceAdd,reduceCtorEq,leE,leH,leB,leV,leVs,keepP,liveP,wfE,wfB,wfV,wfL,killE,kill,kills,St.kill,wt_len,wt_t,wt_C,wt_D,wt_k,yA,addO]
    exact ⟨⟨by omega, by omega⟩, by rw [hrl]; omega, by simp only [lo, hi]; omega, by simp only [lo, hi]; omega, j + 1, ⟨hj', by omega⟩, ⟨by omega, by rw [t1, yU]; rfl⟩, by rw [t2], by rw [t2], by rw [hy, vK, show vC 2 ((rowsD (goW sp) l j)[(keptD (goW sp) (l.take j)).length]'(by rw [hrl]; omega)).enc = [] from rfl, yQ]⟩
  ·have hd : decide ((j : Int) < (l.length : Int)) = false := decide_eq_false (by omega)
   have hje : j = l.length := by omega
   subst hje
   obtain ⟨n1, n2⟩ := rowsD_end (p := goW sp) (l := l)
   simp -implicitDefEqProofs only [rX,↓rY,↓reduceIte,Nat.reduceEqDiff,arrSz,Nat.reduceAdd,reduceCtorEq,slcOk,yA,hd]
   intro hm
   rw [vF] at hkt ⊢
   refine ⟨⟨⟨by omega, by omega⟩, by omega⟩, by rw [hrl]; omega, ⟨⟨by omega, by omega⟩, by omega, by omega⟩, ?_⟩
   rw [retP_isA, n1, n2]
   simp -implicitDefEqProofs only [rX,↓reduceIte,Nat.reduceAdd,resP,tupV,leH,leB,leV,leVs,keepP,liveP,wfB,wfV,wfL,Int.toNat_zero,Nat.sub_zero]
 ·have hno : ∀ j (hj : j < l.length), (goW sp) l[j] = false := by
   intro j
   induction j using Nat.strongRecOn with
   | ind j ih =>
    intro hj
    cases h : (goW sp) l[j] with
    | false => rfl
    | true => exact absurd ⟨j, hj, h, fun i hi hlt => ih i hlt hi⟩ hany
  have hf := fst_no (p := goW sp) (l := l) hno
  have hf2 : l.find? (goW sp) = none := uK.2 fun x hx => by
   obtain ⟨j, hj, rfl⟩ := yJ hx
   rw [hno j hj]; simp
  obtain ⟨e1, e2⟩ := del_none (id := Wai.id) hno
  have hme : ((-1 : Int) == -1) = true := rfl
  unfold hD
  simp -implicitDefEqProofs only [rX,↓rY,ofConst,↓reduceIte,Nat.reduceEqDiff,Nat.reduceAdd,reduceCtorEq,resP,tupV,leH,leB,leV,leVs,keepP,liveP,wfB,wfV,wfL,killE,kill,kills,St.kill,yA,hf,hf2,hme,uL,retP_isA,e1,e2,uT]
end Go.Fx.J
namespace Go.Fx.J
open Go Go.Fx Go.Proofs Go.Fx.R
set_option maxRecDepth 20000
theorem nil_row {k : Nat} : nilRow [V.nil] [.sl k 0 0] := ⟨rfl, fun i x y h1 h2 => by
 cases i with
 | zero => simp at h1 h2; exact .inr ⟨h1.symm, k, h2.symm⟩
 | succ i => simp at h1⟩
theorem del_tidy {f : FuncId} {cl : Nat} {c : Blk} {o : List Int} {sz n m : Nat} {els ks : List (List V)} {z : List V} (hc : ∃ cs, c = .var cs ∧ cs.all isD = true) (hm : m = ks.length)
  (h : OkN Tryz.prog f [.sl 3 0 n, .clo cl [.ptr 0 0 0, .ptr 1 0 0]] (hD c [] sz els) [2] (IsA (.sl 3 0 m) (hD c o sz (ks ++ vY (n - m) z)))) :
  OkN Tryz.prog f [.sl 3 0 n, .clo cl [.ptr 0 0 0, .ptr 1 0 0]] [c, .var [.nil], .arr 1 [], .arr sz els] [2] (IsA (.sl 3 0 m) (hD c o sz ks)) := by
 obtain ⟨cs, rfl, hcs⟩ := hc
 have hwf : ∀ {H : List Blk}, wfL H cs := fun {H} => wfL_all' fun x hx => by
  have := vH.1 hcs x hx
  cases x <;> simp_all [isD, wfV]
 have h2 : OkN Tryz.prog f [.sl 3 0 n, .clo cl [.ptr 0 0 0, .ptr 1 0 0]] [.var cs, .var [.nil], .arr 1 [], .arr sz els] [2] (IsA (.sl 3 0 m) (hD (.var cs) o sz (ks ++ vY (n - m) z))) := by
  refine okN_ghostP (args' := [.sl 3 0 n, .clo cl [.ptr 0 0 0, .ptr 1 0 0]]) (h0' := hD (.var cs) [] sz els) [0, 1, 3] rfl rfl ⟨trivial, trivial, trivial, trivial⟩ (by simp; omega) ⟨_, .nilB 1 [.nil] [.sl 2 0 0] rfl nil_row (.refl _), ?_⟩ h
  unfold hD
  simp -implicitDefEqProofs only [rX,↓reduceIte,reduceCtorEq,leE,leH,leB,leV,leVs,keepP,liveP,wfE,wfB,wfV,wfL,yA,args0]
  exact ⟨leVs_refl _, hwf⟩
 refine ⟨h2.1, Fn_ghostN [0, 1, 3] (by simp; omega) (by simp) h2.2 ?_⟩
 rintro r hs ⟨rfl, rfl⟩
 refine ⟨⟨trivial, trivial, trivial, trivial⟩, _, _, ⟨rfl, rfl⟩, by simp [hD], _, .shr 3 sz m _ rfl (.refl _), ?_⟩
 rw [List.take_left' hm.symm]
 unfold hD
 simp -implicitDefEqProofs only [rX,↓reduceIte,leE,leH,leB,leV,leVs,keepP,liveP,wfE,wfB,wfV,wfL,yA]
 exact ⟨leVs_refl _, hwf⟩
theorem ok89 (l : List Fet) (need : List Sp) (hl : l.length ≤ 2199023255552) (hn : Vd need) (hx : ∀ x ∈ l, Vd [x.sp]) :
  OkN Tryz.prog 89 [.sl 3 0 l.length, .clo 90 [.ptr 0 0 0, .ptr 1 0 0]] [.var [spans need], .var [.nil], .arr 1 [], .arr 3 (l.map Fet.enc)] [2] (IsA (.sl 3 0 (keptD (goF need) l).length) (hD (.var [spans need]) (outsD (goF need) Fet.id l) 3 ((keptD (goF need) l).map Fet.enc))) :=
 del_tidy ⟨_, rfl, rfl⟩ (by simp) (raw89 l need [] hl (by simp; omega) hn hx)
theorem ok62 (l : List Wai) (sp : Sp) (hl : l.length ≤ 2199023255552) (hn : Vd [sp]) (hx : ∀ x ∈ l, Vd x.need) :
  OkN Tryz.prog 62 [.sl 3 0 l.length, .clo 63 [.ptr 0 0 0, .ptr 1 0 0]] [.var [.i sp.1, .i sp.2], .var [.nil], .arr 1 [], .arr 2 (l.map Wai.enc)] [2] (IsA (.sl 3 0 (keptD (goW sp) l).length) (hD (.var [.i sp.1, .i sp.2]) (outsD (goW sp) Wai.id l) 2 ((keptD (goW sp) l).map Wai.enc))) :=
 del_tidy ⟨_, rfl, rfl⟩ (by simp) (raw62 l sp [] hl (by simp; omega) hn hx)
end Go.Fx.J
namespace Go.Fx.J
open Go Go.Fx Go.Proofs Go.Fx.R
set_option maxRecDepth 20000
abbrev ints (l : List Int) : V := .ro 1 (l.map encI)
def lessL {α : Type} (L : List α) (k : Nat) : List α := L.take k ++ L.drop (k + 1)
def cleanL (L : List Mis) (k : Nat) (key : S) (fl : List Fet) (wt : List Wai) : List Mis :=
 if wt = [] then lessL L k else L.set k ⟨key, keptD (goF (needed ⟨key, fl, wt⟩)) fl, wt⟩
def cleanO (key : S) (fl : List Fet) (wt : List Wai) : List Int := outsD (goF (needed ⟨key, fl, wt⟩)) Fet.id fl
theorem wf_enc {h : List Blk} {l : List Mis} : wfL h (l.map Mis.enc).flatten := wfL_all' fun x hx => by
 obtain ⟨e, he, hx⟩ := vN.1 hx
 obtain ⟨m, _, rfl⟩ := yW.1 he
 unfold Mis.enc at hx
 simp at hx
 rcases hx with rfl | rfl | rfl <;> trivial
theorem gv_rows {l : List Mis} {M : Nat → Bool} {h : List Blk} : (l.map Mis.enc).map (gvL M h) = l.map Mis.enc := by
 rw [vT]; rfl
theorem gv_rows' {l : List Mis} {M : Nat → Bool} {h : List Blk} : yC (gvL M h ∘ Mis.enc) l = l.map Mis.enc := rfl
theorem rowsM_less {l : List Mis} {k : Nat} {key : S} {f w : V} (hk : k < l.length) : (rowsM l k key f w).take k ++ (rowsM l k key f w).drop (k + 1) = (lessL l k).map Mis.enc := by
 unfold rowsM lessL
 rw [List.take_set_of_le (yE k), List.drop_set_of_lt (by omega), yX, uS, List.map_drop]
theorem rowsM_C {l : List Mis} {k r : Nat} {key : S} {f w : V} {e : List V} (hr : k < r) (h : (rowsM l k key f w)[r]? = some e) : e.all isC = true := by
 unfold rowsM at h
 rw [List.getElem?_set_ne (by omega), List.getElem?_map] at h
 cases hm : l[r]? with
 | none => rw [hm] at h; cases h
 | some m =>
  rw [hm] at h
  obtain rfl : m.enc = e := by simpa using h
  rfl
theorem raw53 (last : Int) (L : List Mis) (k : Nat) (hk : k < L.length) (key : S) (fl : List Fet) (wt : List Wai) (hL : L.length ≤ 1000) (hl : fl.length ≤ 2199023255552) (hn : Vd (needed ⟨key, fl, wt⟩)) (hx : ∀ x ∈ fl, Vd [x.sp]) (hw : ∀ w ∈ wt, Vd w.need) :
  OkN Tryz.prog 53 [.ptr 0 0 0, .i k] (hF last L.length L k key fl wt) [2] (IsA (.sl 3 0 (cleanO key fl wt).length) (if wt = [] then [.var [.i last, .sl 1 0 (L.length - 1)], .arv 3 ((lessL L k).map Mis.enc), .dead, .arr 1 ((cleanO key fl wt).map encI)]
   else [.var [.i last, .sl 1 0 L.length], .arv 3 (rowsM L k key (.sl 2 0 (keptD (goF (needed ⟨key, fl, wt⟩)) fl).length) (wais wt)), .arr 3 ((keptD (goF (needed ⟨key, fl, wt⟩)) fl).map Fet.enc), .arr 1 ((cleanO key fl wt).map encI)])) := by
 refine okN_ofG pol [0, 1] lw53 (by simp) (by simp [keepP, liveP]) (by simp; omega) (s0 := ⟨args0 0 [.ptr 0 0 0, .i k], [.var [.i last, .sl 1 0 L.length], .arv 3 (rowsM L k key (.sl 2 0 fl.length) (wais wt)), .arr 3 (fl.map Fet.enc), .arr 1 []], 0⟩) ?_ ?_
 ·refine ⟨_, .virt 1 1 (by decide) (.refl _), ?_⟩
  simp -implicitDefEqProofs only [rX,↓reduceIte,reduceCtorEq,leE,leH,leB,leV,leVs,keepP,liveP,wfE,wfB,wfV,wfL,yA,args0,vD]
  exact wf_rows (by simp [wfV, liveP]) trivial
 unfold c53
 have hk' : k < (rowsM L k key (.sl 2 0 fl.length) (wais wt)).length := by rw [rowsM_len]; exact hk
 simp -implicitDefEqProofs only [rX,↓rY,ofConst,↓reduceIte,Nat.reduceEqDiff,arrSz,Nat.reduceAdd,reduceCtorEq,cxN,yA,args0]
 have hkk : (0 : Int) ≤ k ∧ (k : Int) < L.length := ⟨by omega, by omega⟩
 refine ⟨hkk, hk', ?_⟩
 rw [rowsM_at hk']
 refine ⟨by simp, ?_⟩
 refine call_is (ok57 key wt fun w h => (hw w h).2) (by simp [lendsOk, lendOk, lends, lend, wkL, wk, wkR, wkB, pos, blk]) rfl (by simp [keepP, liveP]) ?_
 simp -implicitDefEqProofs only [rX,↓rY,ofConst,cells?,splice,↓reduceIte,Nat.reduceEqDiff,Nat.reduceAdd,freshP,isC,yO,yP,yA]
 refine ⟨hk', ?_⟩
 rw [rowsM_at hk']
 simp -implicitDefEqProofs only [rX,↓rY,vW]
 have hne : ofS (nd wt) = needed ⟨key, fl, wt⟩ := rfl
 rw [hne]
 obtain ⟨nd', hnd⟩ : ∃ x, x = needed ⟨key, fl, wt⟩ := ⟨_, rfl⟩
 have hO : cleanO key fl wt = outsD (goF nd') Fet.id fl := by rw [hnd]; rfl
 rw [hO, ← hnd]
 rw [← hnd] at hn
 have hkl := keptD_len (p := goF nd') (l := fl)
 refine call_isMA [4, 5, 3, 2] [2] [3] [.sl 3 0 fl.length, .clo 90 [.ptr 0 0 0, .ptr 1 0 0]] (.sl 3 0 (keptD (goF nd') fl).length) (.sl 2 0 (keptD (goF nd') fl).length) _ _ [.var [.i last, .sl 1 0 L.length], .arv 3 (rowsM L k key (.sl 2 0 fl.length) (wais wt)), .arr 3 ((keptD (goF nd') fl).map Fet.enc), .arr 1 ((outsD (goF nd') Fet.id fl).map encI), .var [spans nd'], .var [.sl 3 0 (outsD (goF nd') Fet.id fl).length]] _ (ok89 fl nd' hl hn hx) (by simp) (by simp) rfl (by simp [lendsOk, lendOk, lends, lend, wkL, wk, pos]) (by unfold hD; simp only [vU, vV, renB, killB, rowsM_kill]; rfl) rfl rfl (by simp [keepP, liveP]) ?_
 have hR : (rowsM L k key (.sl 2 0 fl.length) (wais wt)).set k (yN 1 [sv key, .sl 2 0 fl.length, wais wt] ++ [.sl 2 0 (keptD (goF nd') fl).length] ++ vC 2 [sv key, .sl 2 0 fl.length, wais wt]) = rowsM L k key (.sl 2 0 (keptD (goF nd') fl).length) (wais wt) := by
  rw [rowsM_set]
  rfl
 simp -implicitDefEqProofs only [rX,↓rY,ofConst,cells?,splice,↓reduceIte,Nat.reduceEqDiff,Nat.reduceAdd,reduceCtorEq,killE,kill,kills,St.kill,isC,Nat.reduceLeDiff,yA]
 refine ⟨hk', ?_⟩
 have hk2 : k < (rowsM L k key (.sl 2 0 (keptD (goF nd') fl).length) (wais wt)).length := by rw [rowsM_len]; exact hk
 simp -implicitDefEqProofs only [rowsM_at hk',hR]
 refine ⟨hk2, ?_⟩
 rw [rowsM_at hk2]
 cases wt with
 | cons w wt =>
  have hz : (((wt.length + 1 : Nat) : Int) == 0) = false := by simp; omega
  simp -implicitDefEqProofs only [rX,↓rY,↓reduceIte,Nat.reduceAdd,reduceCtorEq,resP,tupV,leH,leB,leV,leVs,keepP,liveP,wfB,wfV,wfL,Nat.reduceLeDiff,yA,vW,hz,retP_isA,if_neg (show ¬ w :: wt = [] by simp)]
  exact fun _ => wf_rows (by simp [wfV, liveP]) trivial
 | nil =>
  have hz : (((0 : Nat) : Int) == 0) = true := rfl
  simp -implicitDefEqProofs only [rX,↓rY,↓reduceIte,yA,vW,hz]
  intro hm
  refine ⟨by simp only [lo, hi]; omega, ?_⟩
  have h91 := ok91 (rowsM L k key .any (wais [])) k (by rw [rowsM_len]; exact hk) fun r e hr he => rowsM_C hr he
  rw [rowsM_len, rowsM_less hk] at h91
  refine call_isMA [1] [] [] [.sl 0 0 L.length, .i k, .i ((k : Int) + 1)] (.sl 0 0 (L.length - 1)) (.sl 1 0 (L.length - 1)) _ _ [.var [.i last, .sl 1 0 L.length], .arv 3 ((lessL L k).map Mis.enc), .arr 3 ((keptD (goF nd') fl).map Fet.enc), .arr 1 ((outsD (goF nd') Fet.id fl).map encI), .var [spans nd'], .var [.sl 3 0 (outsD (goF nd') Fet.id fl).length]] _ h91 (by simp) (by simp) (by simp only [vU, vV, blk, List.getD_cons_succ, List.getD_cons_zero, renB, rowsM_ren]; rfl) (by simp [lendsOk, lendOk, lends, lend, wkL, wk, pos]) (by simp only [vU, vV, renB, killB, rowsM_kill, ren_rows]; rfl) rfl rfl (by simp [keepP, liveP]) ?_
  simp -implicitDefEqProofs only [rX,↓rY,cells?,splice,↓reduceIte,Nat.reduceEqDiff,Nat.reduceAdd,resP,tupV,leH,leB,leV,leVs,keepP,liveP,wfB,wfV,wfL,killE,kill,kills,St.kill,isC,Nat.reduceLeDiff,yO,yP,yA,retP_isA]
  exact wf_enc
theorem ok53 (last : Int) (L : List Mis) (k : Nat) (hk : k < L.length) (key : S) (fl : List Fet) (wt : List Wai) (hL : L.length ≤ 1000) (hl : fl.length ≤ 2199023255552) (hn : Vd (needed ⟨key, fl, wt⟩)) (hx : ∀ x ∈ fl, Vd [x.sp]) (hw : ∀ w ∈ wt, Vd w.need) :
  OkN Tryz.prog 53 [.ptr 0 0 0, .i k] (hF last L.length L k key fl wt) [2] (IsA (ints (cleanO key fl wt)) [.var [.i last, .sl 1 0 (cleanL L k key fl wt).length], .arr 3 ((cleanL L k key fl wt).map Mis.enc), .dead]) := by
 have h := raw53 last L k hk key fl wt hL hl hn hx hw
 have htk : yN (cleanO key fl wt).length (yC encI (cleanO key fl wt)) = yC encI (cleanO key fl wt) := yK (by simp)
 refine ⟨h.1, Fn_ghostN [0, 1] (by simp; omega) (by simp) h.2 ?_⟩
 rintro r hs ⟨rfl, rfl⟩
 by_cases hz : wt = []
 ·rw [if_pos hz]
  have hl' : L.length - 1 = (lessL L k).length := by unfold lessL; simp; omega
  have hc : cleanL L k key fl wt = lessL L k := if_pos hz
  rw [hc, hl']
  have hg : St.give (fun j => j == 3) ⟨[(0, .sl 3 0 (cleanO key fl wt).length)], [.var [.i last, .sl 1 0 (lessL L k).length], .arv 3 ((lessL L k).map Mis.enc), .dead, .arr 1 ((cleanO key fl wt).map encI)], 0⟩ = ⟨[(0, ints (cleanO key fl wt))], [.var [.i last, .sl 1 0 (lessL L k).length], .arv 3 ((lessL L k).map Mis.enc), .dead, .dead], 0⟩ := by
   simp [St.give, gvE, gvH, gvB, gvL, gvV, gv_rows', blk, htk]
  refine ⟨⟨trivial, trivial, trivial⟩, _, _, ⟨rfl, rfl⟩, by simp, _, .give (fun j => j == 3) (by simp) (.cls 1 3 ((lessL L k).map Mis.enc) ?_ (fun e he => ?_) (.refl _)), ?_⟩
  ·rw [hg]; rfl
  ·obtain ⟨m, _, rfl⟩ := yW.1 he; rfl
  ·rw [hg]
   simp -implicitDefEqProofs only [rX,↓reduceIte,leE,leH,leB,leV,leVs,keepP,liveP,wfE,wfB,wfV,wfL]
 ·rw [if_neg hz]
  have hc : cleanL L k key fl wt = L.set k ⟨key, keptD (goF (needed ⟨key, fl, wt⟩)) fl, wt⟩ := if_neg hz
  have hr : (L.set k ⟨key, keptD (goF (needed ⟨key, fl, wt⟩)) fl, wt⟩).map Mis.enc = rowsM L k key (fets (keptD (goF (needed ⟨key, fl, wt⟩)) fl)) (wais wt) := by
   unfold rowsM
   rw [vK]
   rfl
  rw [hc, List.length_set]
  have hk2 : yN (keptD (goF (needed ⟨key, fl, wt⟩)) fl).length (yC Fet.enc (keptD (goF (needed ⟨key, fl, wt⟩)) fl)) = yC Fet.enc (keptD (goF (needed ⟨key, fl, wt⟩)) fl) := yK (by simp)
  have hg : St.give (fun j => j == 3 || j == 2) ⟨[(0, .sl 3 0 (cleanO key fl wt).length)], [.var [.i last, .sl 1 0 L.length], .arv 3 (rowsM L k key (.sl 2 0 (keptD (goF (needed ⟨key, fl, wt⟩)) fl).length) (wais wt)), .arr 3 ((keptD (goF (needed ⟨key, fl, wt⟩)) fl).map Fet.enc), .arr 1 ((cleanO key fl wt).map encI)], 0⟩ = ⟨[(0, ints (cleanO key fl wt))], [.var [.i last, .sl 1 0 L.length], .arv 3 ((L.set k ⟨key, keptD (goF (needed ⟨key, fl, wt⟩)) fl, wt⟩).map Mis.enc), .dead, .dead], 0⟩ := by
   rw [hr]
   simp [St.give, gvE, gvH, gvB, gvL, gvV, rowsM_gv, blk, htk, hk2]
  refine ⟨⟨trivial, trivial, trivial⟩, _, _, ⟨rfl, rfl⟩, by simp, _, .give (fun j => j == 3 || j == 2) (by simp) (.cls 1 3 ((L.set k ⟨key, keptD (goF (needed ⟨key, fl, wt⟩)) fl, wt⟩).map Mis.enc) ?_ (fun e he => ?_) (.refl _)), ?_⟩
  ·rw [hg]; rfl
  ·obtain ⟨m, _, rfl⟩ := yW.1 he; rfl
  ·rw [hg]
   simp -implicitDefEqProofs only [rX,↓reduceIte,leE,leH,leB,leV,leVs,keepP,liveP,wfE,wfB,wfV,wfL]
theorem aw_frz {cx : Cx} {xs : List Nat} {c : LCode} {N R : St → Prop} {X : Nat → St → Prop} {e : Env} {h : List Blk} {b : Nat} : aw cx (.frz xs c) N X R ⟨e, h, b⟩ = frzP cx.fx xs ⟨e, h, b⟩ fun s' => aw cx c N X R s' := rfl
def frzQ (fx : List Nat) (v : V) (r : List Nat) (s : St) (K : St → Prop) : Prop :=
 match v with
 | .sl k _ _ => frz1 fx k (blk s.h k) s fun s' => frzP fx r s' K
 | _ => frzP fx r s K
theorem frzP_n {fx : List Nat} {s : St} {K : St → Prop} : frzP fx [] s K = K s := rfl
theorem frzP_c {fx : List Nat} {x : Nat} {r : List Nat} {e : Env} {h : List Blk} {b : Nat} {K : St → Prop} : frzP fx (x :: r) ⟨e, h, b⟩ K = frzQ fx (get e x) r ⟨e, h, b⟩ K := rfl
theorem frzQ_s {fx : List Nat} {k i n : Nat} {r : List Nat} {e : Env} {h : List Blk} {b : Nat} {K : St → Prop} : frzQ fx (.sl k i n) r ⟨e, h, b⟩ K = frz1 fx k (blk h k) ⟨e, h, b⟩ fun s' => frzP fx r s' K := rfl
theorem frz1_a {fx : List Nat} {k sz : Nat} {els : List (List V)} {e : Env} {h : List Blk} {b : Nat} {K : St → Prop} : frz1 fx k (.arr sz els) ⟨e, h, b⟩ K = (k ∉ fx ∧ K ⟨frzE k sz els e, (h.map (frzB k sz els)).set k .dead, b⟩) := rfl
@[congr] theorem c_frzQ {fx : List Nat} {v v' : V} {r : List Nat} {s : St} {K : St → Prop} (q : v = v') : frzQ fx v r s K = frzQ fx v' r s K := by rw [q]
@[congr] theorem c_frz1 {fx : List Nat} {k : Nat} {B B' : Blk} {s : St} {K : St → Prop} (q : B = B') : frz1 fx k B s K = frz1 fx k B' s K := by rw [q]
@[congr] theorem c_frzP {fx xs : List Nat} {s s' : St} {K : St → Prop} (q : s = s') : frzP fx xs s K = frzP fx xs s' K := by rw [q]
theorem op_litsf {cx : Cx} {e : Env} {h : List Blk} {b : Nat} {K : V → St → Prop} {xs : List Nat} {j sz n : Nat} {z : List Value} {ps : List (Nat × Operand)} : aOp cx (.litsf xs j sz n z ps) ⟨e, h, b⟩ K =
  frzP (cx.fx ++ cx.bn) xs ⟨e, h, b⟩ fun s => litsP s.e sz (vY n (z.map .v)) ps fun els => freshP s.h (s.b + j) ∧ K (.sl (s.b + j) 0 n) { s with h := s.h.set (s.b + j) (.arr sz els) } := rfl
theorem frzQ_r {fx : List Nat} {k : Nat} {l : List (List V)} {r : List Nat} {s : St} {K : St → Prop} : frzQ fx (.ro k l) r s K = frzP fx r s K := rfl
theorem frzQ_a {fx : List Nat} {l : List V} {r : List Nat} {s : St} {K : St → Prop} : frzQ fx (.agg l) r s K = frzP fx r s K := rfl
end Go.Fx.J
