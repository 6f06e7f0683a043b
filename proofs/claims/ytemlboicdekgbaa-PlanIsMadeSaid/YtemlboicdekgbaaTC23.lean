import Derived.Test.YtemlboicdekgbaaFxRunSound
import Derived.Test.YtemlboicdekgbaaPSan
import Derived.Test.YtemlboicdekgbaaFxRun
set_option linter.unusedVariables false
set_option linter.unusedSimpArgs false
set_option linter.unusedSectionVars false
open List renaming getD_eq_getElem?_getD → yA, getElem?_eq_getElem → yB, replicate → yC, getElem_mem → yD, mem_of_getElem? → yF, range → yG, ext_getElem → yK, length_map → yM, getElem?_eq_some_iff → yN, length_append → yP, getElem_of_mem → yQ, take → yS, mem_singleton → yT, length_range → yU, mem_map → yV, getElem?_set_ne → yW, mem_range → yX, getElem?_append_left → yY, mem_cons → yZ, map_set → vA, map → vB, mem_cons_self → vC, mem_cons_of_mem → vD, getElem?_append_right → vE, getElem_set → vF, getElem?_set_self → vG, map_append → vH, take_of_length_le → vI, mem_append → vJ, map_cons → vL, length → vM, map_map → vN, all_eq_true → vR, getElem_map → vS, getElem?_replicate → vT, drop → vU, getElem?_map → vW, prefix_refl → vX, map_congr_left → vZ, mem_flatten → uA, append_nil → uB, getElem?_cons_zero → uC, length_take → uD, map_replicate → uE, getElem_append_left → uG, getElem_range → uH, map_inj_left → uI, take_length → uJ, nodup_iff_pairwise_ne → uL, filter_append → uM, zipIdx_cons → uN, append_assoc → uO, map_take → uQ, length_set → uR, getElem?_eq_none → uS, getElem?_range → uV, pairwise_iff_getElem → uW, length_filter_le → uX, mem_append_left → uY, getElem_append → uZ, getElem_replicate → xA, getLast?_concat → xB, take_succ_eq_append_getElem → xC, getElem_cons_zero → xD
open Nat renaming le_refl → yE, zero_le → vO, add_zero → vV, strongRecOn → vY, succ_le_of_lt → uP
open Int renaming toNat_of_nonneg → yH, natCast_zero → yI, toNat → yO, le_refl → vK, mul_zero → vQ, mul_nonneg → uF, toNat_zero → uK, mul_sub → uT, sub_mul → uU
open Option.some renaming injEq → yJ
open Option renaming getD_some → yL
open BitVec renaming ofInt → vP
namespace Go.Fx.P
open Go Go.Fx Go.Proofs
set_option maxRecDepth 20000
theorem san10 : Ok 10 [] (Is (.b true)) := san
theorem s10 {cx : Cx} {e : Env} {h : List Blk} {b : Nat} {K : V → St → Prop} : cx.C = C0 Try.prog → cx.fx = [] → K (.b true) ⟨e, h, b⟩ → callP cx 10 [] ⟨e, h, b⟩ K := by
 intro hc hf hk
 exact call_is (by rw [hc]; exact san10) (by simp [lendsOk, lends, wkL]) rfl (by rw [hf]; trivial) hk
theorem chk_caps {ps : List Spot} {rs : List Road} (h : chkP ps rs = 0) : (ps.length ≤ 100 ∧ rs.length ≤ 1500) ∧ CapsOk ps ∧ RInv ps rs rs.length := by
 unfold chkP at h
 by_cases h1 : 100 < ps.length ∨ 1500 < rs.length
 ·rw [if_pos h1] at h; cases h
 rw [if_neg h1] at h
 by_cases h2 : firstE (eAt ps) ps.length 0 ≠ 0
 ·rw [if_pos h2] at h; exact absurd h h2
 rw [if_neg h2] at h
 by_cases h3 : ∀ r ∈ rs, SoundP ps r
 ·refine ⟨by omega, ?_, ⟨fun j hj _ => h3 _ (yD hj)⟩⟩
  have key : ∀ n i, i ≤ n → i < ps.length → eAt ps i = 0 := by
   intro n
   induction n with
   | zero =>
    intro i hi hil
    by_cases h4 : eAt ps i = 0
    ·exact h4
    ·exact absurd (firstE_at (n := ps.length) (k := 0) (by omega) (by omega) (fun j _ hj => by omega) h4) (by simp only [ne_eq, Classical.not_not] at h2; rw [h2]; exact fun h5 => h4 h5.symm)
   | succ n ih =>
    intro i hi hil
    by_cases h4 : eAt ps i = 0
    ·exact h4
    ·exact absurd (firstE_at (n := ps.length) (k := 0) (by omega) (by omega) (fun j _ hj => ih j (by omega) (by omega)) h4) (by simp only [ne_eq, Classical.not_not] at h2; rw [h2]; exact fun h5 => h4 h5.symm)
  intro i hi
  have := key i i (by omega) hi
  rw [eAt_lt hi] at this
  by_cases h4 : rightB ps[i] = false
  ·rw [if_pos h4] at this; cases this
  ·have h5 : RightP ps[i] := by simpa [rightB] using h4
   exact h5.1
 ·rw [if_neg h3] at h; cases h
abbrev tPl : Fx.T := .st [.sl 3 (.st [.int .i64, .int .i64, .int .i64]), .sl 4 (.st [.int .i64, .int .i64, .int .i64, .int .i64])]
theorem fn_of' {f : FuncId} {xs : List V} (h : Ok f xs (Is (.b true))) : Fn Try.prog f xs [] [] (fun r _ => r = .b true) := (okN_post h fun r h' hr => hr.1).2
theorem exM {α β : Type} {g : α → β} : ∀ {els : List β}, (∀ x ∈ els, ∃ a, x = g a) → ∃ l : List α, els = l.map g
 | [], _ => ⟨[], rfl⟩
 | x :: r, h => by
  obtain ⟨a, rfl⟩ := h x vC
  obtain ⟨l, rfl⟩ := exM (els := r) fun y hy => h y (vD _ hy)
  exact ⟨a :: l, rfl⟩
theorem wf_sp {x : List V} (h : WfT (.st [.int .i64, .int .i64, .int .i64]) x) : ∃ a : Spot, x = a.enc := by
 simp only [WfT, WfTs] at h
 obtain ⟨_, _, rfl, ⟨a, rfl, _⟩, _, _, rfl, ⟨b, rfl, _⟩, _, _, rfl, ⟨c, rfl, _⟩, rfl⟩ := h
 exact ⟨⟨a, b, c⟩, rfl⟩
theorem wf_rd {x : List V} (h : WfT (.st [.int .i64, .int .i64, .int .i64, .int .i64]) x) : ∃ a : Road, x = a.enc := by
 simp only [WfT, WfTs] at h
 obtain ⟨_, _, rfl, ⟨a, rfl, _⟩, _, _, rfl, ⟨b, rfl, _⟩, _, _, rfl, ⟨c, rfl, _⟩, _, _, rfl, ⟨d, rfl, _⟩, rfl⟩ := h
 exact ⟨⟨a, b, c, d⟩, rfl⟩
theorem wf_plant {x : V} (h : WfV tPl x) : ∃ ps rs, x = plant ps rs := by
 simp only [WfV] at h
 obtain ⟨cs, h, rfl⟩ := h
 rw [WfTs.eq_2] at h
 obtain ⟨a, b, rfl, h1, h2⟩ := h
 rw [WfTs.eq_2] at h2
 obtain ⟨c, d, rfl, h3, h4⟩ := h2
 rw [WfTs.eq_1] at h4
 subst h4
 rw [WfT] at h1
 obtain ⟨els, rfl, _, he⟩ := h1
 obtain ⟨ps, rfl⟩ := exM (fun x hx => wf_sp (he x hx))
 rw [WfT] at h3
 obtain ⟨els, rfl, _, he⟩ := h3
 obtain ⟨rs, rfl⟩ := exM (fun x hx => wf_rd (he x hx))
 exact ⟨ps, rs, rfl⟩
end Go.Fx.P
namespace Go.Fx.P.K
open Go Go.Fx Go.Proofs
set_option maxRecDepth 20000
def nodeB (n k : Int) : Bool := decide (0 ≤ k ∧ k < n)
def nb (n : Int) (arcs : List Arc) : Blk := .var [.i n, .ro 4 (arcs.map Arc.enc)]
theorem ok61 (n : Int) (arcs : List Arc) (k : Int) : OkN Try.prog 61 [.i k, .ptr 0 0 0] [nb n arcs] [] (IsA (.b (nodeB n k)) [nb n arcs]) := by
 refine okN_of pol [0] lw61 (by simp) ⟨trivial, trivial⟩ (by simp) ?_
 unfold c61 nb
 simp -implicitDefEqProofs only [rX,↓rY,ofConst,↓reduceIte,Nat.reduceEqDiff,reduceCtorEq,resP,tupV,leH,leB,leV,leVs,keepP,liveP,wfB,wfV,wfL,cxN,args0,retP_isA]
 simp only [br, decide_eq_true_eq, decide_eq_false_iff_not, nodeB]
 grind
def taskP (n f t am : Int) : Bool := decide ((0 ≤ f ∧ f < n) ∧ (0 ≤ t ∧ t < n) ∧ f ≠ t ∧ 0 ≤ am ∧ am ≤ 2199023255552)
theorem ok62 (n : Int) (arcs : List Arc) (f t am : Int) : Ok 62 [net n arcs, .i f, .i t, .i am] (Is (.b (taskP n f t am))) := by
 refine ok_of lw62 (by simp) ?_
 unfold c62 net
 simp -implicitDefEqProofs only [rX,↓rY,ofConst,cells?,↓reduceIte,Nat.reduceEqDiff,Nat.reduceAdd,reduceCtorEq,freshP,resP,tupV,wfV,cxN,args0]
 simp only [br, decide_eq_true_eq, decide_eq_false_iff_not, taskP]
 grind
end Go.Fx.P.K
namespace Go.Fx.P.K
open Go Go.Fx Go.Proofs
set_option maxRecDepth 20000
def validA (n : Int) (a : Arc) : Bool := nodeB n a.from_ && (nodeB n a.to && decide (a.from_ ≠ a.to ∧ 0 ≤ a.cap ∧ a.cap ≤ 1073741824 ∧ 0 ≤ a.cost ∧ a.cost ≤ 1048576))
def checkI (n : Int) (arcs : List Arc) : Int := if 256 < n ∨ 2048 < arcs.length then 2 else if n < 1 then 1 else if arcs.all (validA n) then 0 else 1
theorem checkI_2 {n : Int} {arcs : List Arc} (h : 256 < n ∨ 2048 < arcs.length) : checkI n arcs = 2 := by simp only [checkI, if_pos h]
theorem checkI_1 {n : Int} {arcs : List Arc} (h : ¬ (256 < n ∨ 2048 < arcs.length)) (h1 : n < 1) : checkI n arcs = 1 := by simp only [checkI, if_neg h, if_pos h1]
theorem checkI_0 {n : Int} {arcs : List Arc} (h : ¬ (256 < n ∨ 2048 < arcs.length)) (h1 : ¬ n < 1) (h2 : ∀ k (h : k < arcs.length), validA n arcs[k] = true) : checkI n arcs = 0 := by
 have : arcs.all (validA n) = true := by
  rw [vR]
  intro a ha
  obtain ⟨j, hj, rfl⟩ := yQ ha
  exact h2 j hj
 simp only [checkI, if_neg h, if_neg h1, this, if_true]
theorem checkI_b {n : Int} {arcs : List Arc} (h : ¬ (256 < n ∨ 2048 < arcs.length)) (h1 : ¬ n < 1) {k : Nat} (hk : k < arcs.length) (h2 : validA n arcs[k] = false) : checkI n arcs = 1 := by
 have : arcs.all (validA n) = false := by
  rw [List.all_eq_false]
  exact ⟨_, yD hk, by simp [h2]⟩
 simp only [checkI, if_neg h, if_neg h1, this]
 rfl
structure VInv (n : Int) (arcs : List Arc) (k : Nat) : Prop where
 h : ∀ j (h : j < arcs.length), j < k → validA n arcs[j] = true
theorem VInv.next {n : Int} {arcs : List Arc} {k : Nat} (h : VInv n arcs k) (hk : k < arcs.length) (hv : validA n arcs[k] = true) : VInv n arcs (k + 1) := by
 refine ⟨fun j hj h2 => ?_⟩
 by_cases h3 : j = k
 ·subst h3; exact hv
 ·exact h.h j hj (by omega)
theorem ok41 (n : Int) (arcs : List Arc) : Ok 41 [net n arcs] (Is (.i (checkI n arcs))) := by
 refine ok_of lw41 (by simp) ?_
 unfold c41 net
 simp -implicitDefEqProofs only [rX,↓rY,ofConst,cells?,↓reduceIte,Nat.reduceEqDiff,freshP,resP,tupV,wfV,cxN,args0]
 simp only [br, decide_eq_true_eq, decide_eq_false_iff_not]
 refine ⟨fun h => ?_, fun h1 hm => ⟨fun h => ?_, fun h2 => ⟨fun h => ?_, fun h3 => ?_⟩⟩⟩
 ·exact (checkI_2 (.inl h)).symm
 ·exact (checkI_2 (.inr (by omega))).symm
 ·exact (checkI_1 (by omega) h).symm
 intro _
 refine loopP_intro (fun k : Nat => ⟨[(22, .i k), (21, .i arcs.length), (20, .ro 4 (arcs.map Arc.enc)), (3, .clo 61 [.ptr 0 0 0]), (1, .ptr 0 0 0)], [.var [.i n, .ro 4 (arcs.map Arc.enc)]], 0⟩) (fun k => k ≤ arcs.length ∧ VInv n arcs k) (fun k => arcs.length - k) 0 ⟨by omega, ⟨by simp⟩⟩ ?_ ?_
 ·simp -implicitDefEqProofs only [rX,↓reduceIte,Nat.reduceEqDiff,leE,leH,leB,leV,leVs,keepP,liveP,wfE,wfB,wfV,wfL,leVs,leV,yI]
 rintro k ⟨hk, hv⟩
 simp -implicitDefEqProofs only [rX,↓rY,rZ,ofConst,cells?,splice,↓reduceIte,Nat.reduceEqDiff,Nat.reduceAdd,freshP,resP,tupV,wfV]
 simp only [br, decide_eq_true_eq, decide_eq_false_iff_not]
 refine ⟨fun h => ⟨⟨by omega, h⟩, ⟨by omega, ?_⟩⟩, fun h => (checkI_0 (by omega) h3 fun j hj => hv.h j hj (by omega)).symm⟩
 have hk : k < arcs.length := by omega
 have bad := fun (h : validA n arcs[k] = false) => (checkI_b (n := n) (arcs := arcs) (by omega) h3 hk h).symm
 have good := fun (h : validA n arcs[k] = true) => hv.next hk h
 refine call_isN [0] [.i arcs[k].from_, .ptr 0 0 0] (.b (nodeB n arcs[k].from_)) (.b (nodeB n arcs[k].from_)) [nb n arcs] [nb n arcs] _ (ok61 n arcs arcs[k].from_) ⟨by simp, by simp⟩ rfl ?_ (by simp) rfl rfl trivial ?_
 ·simp [lendsOk, lendOk, lends, lend, wkL, wk, pos]
 cases hf : nodeB n arcs[k].from_ with
 | false =>
  simp -implicitDefEqProofs only [rX,↓rY,ofConst,↓reduceIte,Nat.reduceEqDiff,Nat.reduceAdd,resP,tupV,wfV]
  exact bad (by simp [validA, hf])
 | true =>
  simp -implicitDefEqProofs only [rX,↓rY,rZ,↓reduceIte,Nat.reduceEqDiff,Nat.reduceAdd,setAll,renB,rens,ren,nb]
  refine call_isN [0] [.i arcs[k].to, .ptr 0 0 0] (.b (nodeB n arcs[k].to)) (.b (nodeB n arcs[k].to)) [nb n arcs] [nb n arcs] _ (ok61 n arcs arcs[k].to) ⟨by simp, by simp⟩ rfl ?_ (by simp) rfl rfl trivial ?_
  ·simp [lendsOk, lendOk, lends, lend, wkL, wk, pos]
  cases ht : nodeB n arcs[k].to with
  | false =>
   simp -implicitDefEqProofs only [rX,↓rY,ofConst,↓reduceIte,Nat.reduceEqDiff,Nat.reduceAdd,resP,tupV,wfV,setAll,renB,rens,ren,nb]
   exact bad (by simp [validA, ht])
  | true =>
   simp -implicitDefEqProofs only [rX,↓rY,rZ,ofConst,↓reduceIte,Nat.reduceEqDiff,Nat.reduceAdd,resP,tupV,leE,leH,leB,leV,leVs,keepP,liveP,wfE,wfB,wfV,wfL,setAll,renB,rens,ren,nb]
   simp only [br, decide_eq_true_eq, decide_eq_false_iff_not, validA, hf, ht, Bool.true_and] at bad good ⊢
   simp only [lo, hi, maxLen, beq_iff_eq, beq_eq_false_iff_ne] at *
   repeat' (first | (refine ⟨(k+1 : _), ?_⟩) | (refine ⟨by omega, ?_⟩) | (refine And.intro ?_ ?_) | (refine (fun _ => ?_)))
   all_goals first | omega | (apply bad; omega) | (apply good; omega)
end Go.Fx.P.K
namespace Go.Fx.P.K
open Go Go.Fx Go.Proofs
set_option maxRecDepth 20000
structure Val (N : Nat) (arcs : List Arc) : Prop where
 hn : 1 ≤ N ∧ N ≤ 256
 hl : arcs.length ≤ 2048
 ha : ∀ a ∈ arcs, (0 ≤ a.from_ ∧ a.from_ < N) ∧ (0 ≤ a.to ∧ a.to < N) ∧ a.from_ ≠ a.to ∧ (0 ≤ a.cap ∧ a.cap ≤ 1073741824) ∧ 0 ≤ a.cost ∧ a.cost ≤ 1048576
theorem Val.of {n : Int} {arcs : List Arc} (h : checkI n arcs = 0) : ∃ N : Nat, n = N ∧ Val N arcs := by
 unfold checkI at h
 split at h
 ·cases h
 ·split at h
  ·cases h
  ·split at h
   ·rename_i h1 h2 h3
    refine ⟨n.toNat, by omega, by omega, by omega, fun a ha => ?_⟩
    rw [vR] at h3
    have := h3 a ha
    simp only [validA, nodeB, Bool.and_eq_true, decide_eq_true_eq] at this
    omega
   ·cases h
theorem Val.chk {N : Nat} {arcs : List Arc} (h : Val N arcs) : checkI N arcs = 0 := by
 obtain ⟨h1, h2, h3⟩ := h
 refine checkI_0 (by omega) (by omega) fun k hk => ?_
 have := h3 _ (yD hk)
 simp only [validA, nodeB, Bool.and_eq_true, decide_eq_true_eq]
 omega
def possP (arcs : List Arc) (flow : List Int) : Prop := ∀ i (h1 : i < flow.length) (h2 : i < arcs.length), 0 ≤ flow[i] ∧ flow[i] ≤ arcs[i].cap
theorem Val.flow {N : Nat} {arcs : List Arc} (h : Val N arcs) {flow : List Int} (hl : flow.length = arcs.length) (hp : possP arcs flow) : ∀ x ∈ flow, 0 ≤ x ∧ x ≤ 1073741824 := by
 intro x hx
 obtain ⟨i, hi, rfl⟩ := yQ hx
 have h1 := hp i hi (by omega)
 have h2 := (h.ha arcs[i] (yD _))
 omega
def valTo (arcs : List Arc) (node : Int) (flow : List Int) : Nat → Int
 | 0 => 0
 | k + 1 => valTo arcs node flow k + (if (arcs.getD k ⟨0,0,0,0⟩).from_ = node then flow.getD k 0 else 0) - (if (arcs.getD k ⟨0,0,0,0⟩).to = node then flow.getD k 0 else 0)
theorem flow_b {flow : List Int} (hf : ∀ x ∈ flow, 0 ≤ x ∧ x ≤ 1073741824) (k : Nat) : 0 ≤ flow.getD k 0 ∧ flow.getD k 0 ≤ 1073741824 := by
 rw [yA]
 cases h : flow[k]? with
 | none => simp
 | some x => exact hf x (yF h)
theorem valTo_bound (arcs : List Arc) (node : Int) (flow : List Int) (hf : ∀ x ∈ flow, 0 ≤ x ∧ x ≤ 1073741824) : ∀ k : Nat, -((k : Int) * 1073741824) ≤ valTo arcs node flow k ∧ valTo arcs node flow k ≤ (k : Int) * 1073741824
 | 0 => by simp [valTo]
 | k + 1 => by
  have h1 := valTo_bound arcs node flow hf k
  have h2 := flow_b hf k
  simp only [valTo]
  split <;> split <;> omega
theorem valTo_step {arcs : List Arc} {node : Int} {flow : List Int} {k : Nat} (h1 : k < arcs.length) (h2 : k < flow.length) : valTo arcs node flow (k + 1) = valTo arcs node flow k + (if arcs[k].from_ = node then flow[k] else 0) - (if arcs[k].to = node then flow[k] else 0) := by
 simp only [valTo, yA, yB h1, yB h2, yL]
def totTo (arcs : List Arc) (flow : List Int) : Nat → Int
 | 0 => 0
 | k + 1 => totTo arcs flow k + flow.getD k 0 * (arcs.getD k ⟨0,0,0,0⟩).cost
theorem totTo_step {arcs : List Arc} {flow : List Int} {k : Nat} (h1 : k < arcs.length) (h2 : k < flow.length) : totTo arcs flow (k + 1) = totTo arcs flow k + flow[k] * arcs[k].cost := by
 simp only [totTo, yA, yB h1, yB h2, yL]
theorem mul_b {a b : Int} (h1 : 0 ≤ a ∧ a ≤ 1073741824) (h2 : 0 ≤ b ∧ b ≤ 1048576) : 0 ≤ a * b ∧ a * b ≤ 1125899906842624 := by
 refine ⟨uF h1.1 h2.1, ?_⟩
 have := Int.mul_le_mul h1.2 h2.2 h2.1 (by omega)
 omega
theorem totTo_bound (arcs : List Arc) (flow : List Int) (hf : ∀ x ∈ flow, 0 ≤ x ∧ x ≤ 1073741824) (ha : ∀ a ∈ arcs, 0 ≤ a.cost ∧ a.cost ≤ 1048576) : ∀ k : Nat, 0 ≤ totTo arcs flow k ∧ totTo arcs flow k ≤ (k : Int) * 1125899906842624
 | 0 => by simp [totTo]
 | k + 1 => by
  have h1 := totTo_bound arcs flow hf ha k
  have h2 := flow_b hf k
  have h3 : 0 ≤ (arcs.getD k ⟨0,0,0,0⟩).cost ∧ (arcs.getD k ⟨0,0,0,0⟩).cost ≤ 1048576 := by
   rw [yA]
   cases h : arcs[k]? with
   | none => simp
   | some x => exact ha x (yF h)
  have := mul_b h2 h3
  simp only [totTo]
  omega
structure FewInv (arcs : List Arc) (most : Int) (k : Nat) : Prop where
 h : ∀ j (h : j < arcs.length), j < k → arcs[j].cap ≤ most
def fewB (n : Int) (arcs : List Arc) (most : Int) : Bool := decide (n ≤ 12 ∧ arcs.length ≤ 30 ∧ checkI n arcs = 0) && arcs.all fun a => decide (a.cap ≤ most)
end Go.Fx.P.K
namespace Go.Fx.P.K
open Go Go.Fx Go.Proofs
set_option maxRecDepth 20000
structure OkF (n : Int) (arcs : List Arc) (f t : Int) (flow : List Int) : Prop where
 hl : flow.length = arcs.length
 hp : possP arcs flow
 hz : ∀ j : Int, 0 ≤ j → j < n → j ≠ f → j ≠ t → valTo arcs j flow arcs.length = 0
open Classical in
noncomputable def flB (n : Int) (arcs : List Arc) (f t : Int) (flow : List Int) : Bool := decide (OkF n arcs f t flow)
structure PInv (arcs : List Arc) (flow : List Int) (k : Nat) : Prop where
 h : ∀ j (h1 : j < flow.length) (h2 : j < arcs.length), j < k → 0 ≤ flow[j] ∧ flow[j] ≤ arcs[j].cap
structure ZInv (arcs : List Arc) (f t : Int) (flow : List Int) (k : Nat) : Prop where
 h : ∀ j : Nat, j < k → ((j : Int) ≠ f → (j : Int) ≠ t → valTo arcs j flow arcs.length = 0)
def hasB (l : List Int) (x : Int) : Bool := decide (x ∈ l)
structure NInv (l : List Int) (x : Int) (k : Nat) : Prop where
 h : ∀ j (h1 : j < l.length), j < k → l[j] ≠ x
structure OkP (N : Nat) (arcs : List Arc) (f : Int) (flow price : List Int) : Prop where
 hl : price.length = N
 h0 : price.getD f.toNat 0 = 0
 hb : ∀ j (h : j < price.length), 0 ≤ price[j] ∧ price[j] ≤ 1073741824
 ha : ∀ k (h : k < arcs.length), (arcs[k].cost + price.getD arcs[k].from_.toNat 0 - price.getD arcs[k].to.toNat 0 < 0 → arcs[k].cap ≤ flow.getD k 0) ∧ (0 < arcs[k].cost + price.getD arcs[k].from_.toNat 0 - price.getD arcs[k].to.toNat 0 → flow.getD k 0 ≤ 0)
open Classical in
noncomputable def prB (N : Nat) (arcs : List Arc) (f : Int) (flow price : List Int) : Bool := decide (OkP N arcs f flow price)
theorem prB_t {N : Nat} {arcs : List Arc} {f : Int} {flow price : List Int} (h : OkP N arcs f flow price) : true = prB N arcs f flow price := by simp [prB, h]
theorem prB_f {N : Nat} {arcs : List Arc} {f : Int} {flow price : List Int} (h : ¬ OkP N arcs f flow price) : false = prB N arcs f flow price := by simp [prB, h]
theorem getD_at {l : List Int} {i : Int} (h : 0 ≤ i ∧ i < l.length) : l.getD i.toNat 0 = l[i.toNat]'(by omega) := by
 rw [yA, yB (by omega)]; rfl
theorem getD_nat {l : List Int} {k : Nat} (h : k < l.length) : l.getD k 0 = l[k] := by
 rw [yA, yB h]; rfl
structure BInv (price : List Int) (k : Nat) : Prop where
 h : ∀ j (h : j < price.length), j < k → 0 ≤ price[j] ∧ price[j] ≤ 1073741824
structure RInv (arcs : List Arc) (flow price : List Int) (k : Nat) : Prop where
 h : ∀ k' (h : k' < arcs.length), k' < k → (arcs[k'].cost + price.getD arcs[k'].from_.toNat 0 - price.getD arcs[k'].to.toNat 0 < 0 → arcs[k'].cap ≤ flow.getD k' 0) ∧ (0 < arcs[k'].cost + price.getD arcs[k'].from_.toNat 0 - price.getD arcs[k'].to.toNat 0 → flow.getD k' 0 ≤ 0)
theorem RInv.next {arcs : List Arc} {flow price : List Int} {k : Nat} (hv : RInv arcs flow price k) (hk : k < arcs.length) (h : (arcs[k].cost + price.getD arcs[k].from_.toNat 0 - price.getD arcs[k].to.toNat 0 < 0 → arcs[k].cap ≤ flow.getD k 0) ∧ (0 < arcs[k].cost + price.getD arcs[k].from_.toNat 0 - price.getD arcs[k].to.toNat 0 → flow.getD k 0 ≤ 0)) : RInv arcs flow price (k + 1) := by
 refine ⟨fun j hj h2 => ?_⟩
 by_cases h6 : j = k
 ·subst h6; exact h
 ·exact hv.h j hj (by omega)
end Go.Fx.P.K
namespace Go.Fx.P.K
open Go Go.Fx Go.Proofs
set_option maxRecDepth 20000
structure OkS (n : Int) (cut : List Int) (k : Nat) : Prop where
 h : ∀ j (h : j < cut.length), j < k → (0 ≤ cut[j] ∧ cut[j] < n) ∧ (0 < j → cut.getD (j - 1) 0 < cut[j])
theorem OkS.next {n : Int} {cut : List Int} {k : Nat} (hv : OkS n cut k) (hk : k < cut.length) (h : (0 ≤ cut[k] ∧ cut[k] < n) ∧ (0 < k → cut.getD (k - 1) 0 < cut[k])) : OkS n cut (k + 1) := by
 refine ⟨fun j hj h2 => ?_⟩
 by_cases h6 : j = k
 ·subst h6; exact h
 ·exact hv.h j hj (by omega)
structure OkA (arcs : List Arc) (flow : List Int) (cut : List Int) (k : Nat) : Prop where
 h : ∀ j (h : j < arcs.length), j < k → (hasB cut arcs[j].from_ = true → hasB cut arcs[j].to = false → flow.getD j 0 = arcs[j].cap) ∧ (hasB cut arcs[j].to = true → hasB cut arcs[j].from_ = false → flow.getD j 0 = 0)
theorem OkA.next {arcs : List Arc} {flow cut : List Int} {k : Nat} (hv : OkA arcs flow cut k) (hk : k < arcs.length) (h : (hasB cut arcs[k].from_ = true → hasB cut arcs[k].to = false → flow.getD k 0 = arcs[k].cap) ∧ (hasB cut arcs[k].to = true → hasB cut arcs[k].from_ = false → flow.getD k 0 = 0)) : OkA arcs flow cut (k + 1) := by
 refine ⟨fun j hj h2 => ?_⟩
 by_cases h6 : j = k
 ·subst h6; exact h
 ·exact hv.h j hj (by omega)
structure OkC (n : Int) (arcs : List Arc) (f t : Int) (flow cut : List Int) : Prop where
 hs : OkS n cut cut.length
 hf : hasB cut f = true
 ht : hasB cut t = false
 ha : OkA arcs flow cut arcs.length
open Classical in
noncomputable def cuB (n : Int) (arcs : List Arc) (f t : Int) (flow cut : List Int) : Bool := decide (OkC n arcs f t flow cut)
theorem cuB_t {n : Int} {arcs : List Arc} {f t : Int} {flow cut : List Int} (h : OkC n arcs f t flow cut) : true = cuB n arcs f t flow cut := by simp [cuB, h]
theorem cuB_f {n : Int} {arcs : List Arc} {f t : Int} {flow cut : List Int} (h : ¬ OkC n arcs f t flow cut) : false = cuB n arcs f t flow cut := by simp [cuB, h]
def frB (fr : Fr) : Blk := .var [.i fr.sent, .i fr.cost, .ro 1 (fr.flow.map encI), .ro 1 (fr.price.map encI), .ro 1 (fr.cut.map encI)]
structure OkAc (N : Nat) (arcs : List Arc) (f t am : Int) (fr : Fr) : Prop where
 fl : OkF N arcs f t fr.flow
 hs : 0 ≤ fr.sent ∧ fr.sent ≤ am
 hv : valTo arcs f fr.flow arcs.length = fr.sent
 ht : totTo arcs fr.flow arcs.length = fr.cost
 hp : OkP N arcs f fr.flow fr.price
 hc : if fr.sent = am then fr.cut = [] else OkC N arcs f t fr.flow fr.cut
open Classical in
noncomputable def accI (N : Nat) (arcs : List Arc) (f t am : Int) (fr : Fr) : Int := if OkAc N arcs f t am fr then 0 else 110
theorem accI_t {N : Nat} {arcs : List Arc} {f t am : Int} {fr : Fr} (h : OkAc N arcs f t am fr) : 0 = accI N arcs f t am fr := by simp [accI, h]
theorem accI_f {N : Nat} {arcs : List Arc} {f t am : Int} {fr : Fr} (h : ¬ OkAc N arcs f t am fr) : 110 = accI N arcs f t am fr := by simp [accI, h]
end Go.Fx.P.K
namespace Go.Fx.P
open Go Go.Fx Go.Proofs
set_option maxRecDepth 20000
theorem netOf_len {ps : List Spot} {rs : List Road} : (netOf ps rs).length = ps.length + (ofN ps 1 ps.length).length + (ofN ps 3 ps.length).length + rs.length := by
 simp only [netOf, nA4, nA3, nA2, nA1, yP, yM, yU]
def nN (ps : List Spot) : Nat := 2 + 2 * ps.length
theorem nN_eq (ps : List Spot) : nodes ps = (nN ps : Int) := by simp only [nodes, nN]; omega
theorem net_val {ps : List Spot} {rs : List Road} (h : chkP ps rs = 0) : K.Val (nN ps) (netOf ps rs) := by
 obtain ⟨⟨hl, hr⟩, hc, hv⟩ := chk_caps h
 have hlen := nA4_len (ps := ps) (l := rs)
 refine ⟨by simp only [nN]; omega, by simp only [netOf]; omega, fun a ha => ?_⟩
 simp only [netOf, nA4, nA3, nA2, nA1, vJ, yV, yX] at ha
 simp only [nN]
 rcases ha with ((⟨i, hi, rfl⟩ | ⟨i, hi, rfl⟩) | ⟨i, hi, rfl⟩) | ⟨r, hr2, rfl⟩
 ·have := capAt_b hc i
  simp only [aP]; omega
 ·have := capAt_b hc i
  have := ofN_mem hi
  simp only [aS]; omega
 ·have := capAt_b hc i
  have := ofN_mem hi
  simp only [aO]; omega
 ·obtain ⟨j, hj, rfl⟩ := yQ hr2
  obtain ⟨h1, h2, h3, h4, h5, _⟩ := hv.h j hj hj
  simp only [aR]; omega
def FewP (ps : List Spot) (rs : List Road) : Prop := chkP ps rs = 0 ∧ ps.length ≤ 10 ∧ rs.length ≤ 25
open Classical in
noncomputable def fewB (ps : List Spot) (rs : List Road) : Bool := decide (FewP ps rs)
theorem ok19 (ps : List Spot) (rs : List Road) : Ok 19 [plant ps rs] (Is (.b (fewB ps rs))) := by
 refine ok_of lw19 (by simp) ?_
 unfold c19 plant sps rds
 simp -implicitDefEqProofs only [rX,↓rY,ofConst,cells?,↓reduceIte,Nat.reduceEqDiff,Nat.reduceAdd,freshP,cxN,args0]
 refine call_is (ok12 ps rs) (by simp [plant, sps, rds, lendsOk, lendOk, lends, lend, wkL, wk, wkR]) rfl trivial ?_
 simp -implicitDefEqProofs only [rX,↓rY,ofConst,↓reduceIte,Nat.reduceEqDiff,resP,tupV,wfV]
 simp only [br, beq_iff_eq, beq_eq_false_iff_ne, decide_eq_true_eq, decide_eq_false_iff_not]
 have ht : FewP ps rs → true = fewB ps rs := fun h => by simp [fewB, h]
 have hf : ¬ FewP ps rs → false = fewB ps rs := fun h => by simp [fewB, h]
 have he : ∀ t : Bool, (t = true ↔ FewP ps rs) → t = fewB ps rs := fun t h => by
  cases t
  ·exact hf fun h2 => by have := h.2 h2; cases this
  ·exact ht (h.1 rfl)
 repeat' (first | (with_reducible refine And.intro ?_ ?_) | (with_reducible refine fun _ => ?_))
 all_goals first
  | (apply he; simp only [FewP, decide_eq_true_eq]; omega)
  | (apply hf; simp only [FewP]; omega)
  | (apply ht; simp only [FewP]; omega)
open Classical in
noncomputable def racc (ps : List Spot) (rs : List Road) (fr : Fr) : Int := if chkP ps rs = 0 then K.accI (nN ps) (netOf ps rs) 0 1 (dem ps) fr else chkP ps rs
structure IsPlan (ps : List Spot) (rs : List Road) (fr : Fr) : Prop where
 chk : chkP ps rs = 0
 few : ps.length ≤ 10 ∧ rs.length ≤ 25
 acc : K.OkAc (nN ps) (netOf ps rs) 0 1 (dem ps) fr
theorem IsPlan.of {ps : List Spot} {rs : List Road} {fr : Fr} (h : FewP ps rs) (h2 : racc ps rs fr = 0) : IsPlan ps rs fr := by
 refine ⟨h.1, h.2, ?_⟩
 rw [racc, if_pos h.1, K.accI] at h2
 by_cases h3 : K.OkAc (nN ps) (netOf ps rs) 0 1 (dem ps) fr
 ·exact h3
 ·rw [if_neg h3] at h2; cases h2
set_option maxRecDepth 20000
def sumI (f : Nat → Int) : Nat → Int
 | 0 => 0
 | k + 1 => sumI f k + f k
theorem sumI_add {f : Nat → Int} (a : Nat) : ∀ b, sumI f (a + b) = sumI f a + sumI (fun i => f (a + i)) b
 | 0 => by simp [sumI]
 | b + 1 => by
  rw [← Nat.add_assoc, sumI, sumI_add a b, sumI]; omega
theorem sumI_congr {f g : Nat → Int} : ∀ {n : Nat}, (∀ i, i < n → f i = g i) → sumI f n = sumI g n
 | 0, _ => rfl
 | n + 1, h => by rw [sumI, sumI, sumI_congr fun i hi => h i (by omega), h n (by omega)]
theorem sumI_zero {f : Nat → Int} : ∀ {n : Nat}, (∀ i, i < n → f i = 0) → sumI f n = 0
 | 0, _ => rfl
 | n + 1, h => by rw [sumI, sumI_zero fun i hi => h i (by omega), h n (by omega)]; rfl
theorem sumI_plus {f g : Nat → Int} : ∀ {n : Nat}, sumI (fun i => f i + g i) n = sumI f n + sumI g n
 | 0 => rfl
 | n + 1 => by rw [sumI, sumI, sumI, sumI_plus]; omega
theorem sumI_neg {f : Nat → Int} : ∀ {n : Nat}, sumI (fun i => - f i) n = - sumI f n
 | 0 => rfl
 | n + 1 => by rw [sumI, sumI, sumI_neg]; omega
theorem sumI_le {f g : Nat → Int} : ∀ {n : Nat}, (∀ i, i < n → f i ≤ g i) → sumI f n ≤ sumI g n
 | 0, _ => vK _
 | n + 1, h => by
  have h1 := sumI_le (f := f) (g := g) (n := n) fun i hi => h i (by omega)
  have h2 := h n (by omega)
  rw [sumI, sumI]; omega
theorem sumI_one {f : Nat → Int} {i : Nat} : ∀ {n : Nat}, i < n → sumI (fun k => if k = i then f k else 0) n = f i
 | n + 1, h => by
  rw [sumI]
  by_cases hi : n = i
  ·subst hi
   rw [if_pos rfl, sumI_zero fun k hk => if_neg (by omega)]; omega
  ·rw [if_neg hi, sumI_one (by omega)]; omega
theorem sumI_swap {g : Nat → Nat → Int} {m : Nat} : ∀ {n : Nat}, sumI (fun i => sumI (g i) m) n = sumI (fun k => sumI (fun i => g i k) n) m
 | 0 => (sumI_zero fun _ _ => rfl).symm
 | n + 1 => by
  rw [sumI, sumI_swap, ← sumI_plus]
  rfl
theorem sumI_part {f : Nat → Int} {p : Nat → Nat} {n m : Nat} (hp : ∀ k, k < m → p k < n) : sumI (fun i => sumI (fun k => if p k = i then f k else 0) m) n = sumI f m := by
 rw [sumI_swap]
 refine sumI_congr fun k hk => ?_
 have := sumI_one (f := fun _ => f k) (hp k hk)
 refine Eq.trans (sumI_congr fun i _ => ?_) this
 by_cases h : p k = i
 ·rw [if_pos h, if_pos h.symm]
 ·rw [if_neg h, if_neg fun h2 => h h2.symm]
def con (j : Int) (a : Arc) (x : Int) : Int := (if a.from_ = j then x else 0) - (if a.to = j then x else 0)
abbrev a0 : Arc := ⟨0, 0, 0, 0⟩
theorem valTo_sum {arcs : List Arc} {j : Int} {flow : List Int} : ∀ {k : Nat}, K.valTo arcs j flow k = sumI (fun i => con j (arcs.getD i a0) (flow.getD i 0)) k
 | 0 => rfl
 | k + 1 => by
  have e : arcs.getD k a0 = arcs.getD k ⟨0, 0, 0, 0⟩ := rfl
  rw [K.valTo, valTo_sum, sumI, con, e]
  split <;> split <;> omega
theorem getD_l {l m : List Arc} {i : Nat} (h : i < l.length) : (l ++ m).getD i a0 = l.getD i a0 := by
 rw [yA, yY h, yA]
theorem getD_r {l m : List Arc} {i n : Nat} (h : l.length = n) : (l ++ m).getD (n + i) a0 = m.getD i a0 := by
 rw [yA, vE (by omega), yA, show n + i - l.length = i by omega]
theorem getD_map {α : Type} {l : List α} {f : α → Arc} {i : Nat} (d : α) (h : i < l.length) : (l.map f).getD i a0 = f (l.getD i d) := by
 rw [yA, vW, yA, yB h]; rfl
theorem val_parts {ps : List Spot} {rs : List Road} {flow : List Int} {j : Int} : K.valTo (netOf ps rs) j flow (netOf ps rs).length =
  sumI (fun i => con j (aP ps i) (flow.getD i 0)) ps.length +
  sumI (fun k => con j (aS ps ((ofN ps 1 ps.length).getD k 0)) (flow.getD (ps.length + k) 0)) (ofN ps 1 ps.length).length +
  sumI (fun k => con j (aO ps ((ofN ps 3 ps.length).getD k 0)) (flow.getD (ps.length + (ofN ps 1 ps.length).length + k) 0)) (ofN ps 3 ps.length).length +
  sumI (fun k => con j (aR (rs.getD k default)) (flow.getD (ps.length + (ofN ps 1 ps.length).length + (ofN ps 3 ps.length).length + k) 0)) rs.length := by
 rw [valTo_sum, netOf_len, sumI_add, sumI_add, sumI_add]
 have l3 : (nA3 ps (ofN ps 3 ps.length)).length = ps.length + (ofN ps 1 ps.length).length + (ofN ps 3 ps.length).length := by
  simp only [nA3, nA2, nA1, yP, yM, yU]
 have l2 : (nA2 ps (ofN ps 1 ps.length)).length = ps.length + (ofN ps 1 ps.length).length := by
  simp only [nA2, nA1, yP, yM, yU]
 have l1 : (nA1 ps ps.length).length = ps.length := nA1_len
 congr 1
 ·congr 1
  ·congr 1
   ·refine sumI_congr fun i hi => ?_
    rw [netOf, nA4, getD_l (by omega), nA3, getD_l (by omega), nA2, getD_l (by omega), nA1, getD_map 0 (by simpa using hi)]
    rw [yA, uV hi, yL]
   ·refine sumI_congr fun i hi => ?_
    rw [netOf, nA4, getD_l (by omega), nA3, getD_l (by omega), nA2, getD_r l1, getD_map 0 hi]
  ·refine sumI_congr fun i hi => ?_
   rw [netOf, nA4, getD_l (by omega), nA3, getD_r l2, getD_map 0 hi]
 ·refine sumI_congr fun i hi => ?_
  rw [netOf, nA4, getD_r l3, getD_map default hi]
set_option maxRecDepth 20000
theorem con_f {j x : Int} {a : Arc} (h1 : a.from_ = j) (h2 : a.to ≠ j) : con j a x = x := by rw [con, if_pos h1, if_neg h2]; omega
theorem con_t {j x : Int} {a : Arc} (h1 : a.from_ ≠ j) (h2 : a.to = j) : con j a x = -x := by rw [con, if_neg h1, if_pos h2]; omega
theorem con_n {j x : Int} {a : Arc} (h1 : a.from_ ≠ j) (h2 : a.to ≠ j) : con j a x = 0 := by rw [con, if_neg h1, if_neg h2]; rfl
def Fr.fl (fr : Fr) (k : Nat) : Int := fr.flow.getD k 0
def sS (ps : List Spot) (fr : Fr) (i : Nat) : Int := sumI (fun k => if (ofN ps 1 ps.length).getD k 0 = i then fr.fl (ps.length + k) else 0) (ofN ps 1 ps.length).length
def Fr.rd (ps : List Spot) (fr : Fr) (k : Nat) : Int := fr.fl (ps.length + (ofN ps 1 ps.length).length + (ofN ps 3 ps.length).length + k)
def sIn (ps : List Spot) (rs : List Road) (fr : Fr) (i : Nat) : Int := sumI (fun k => if (rs.getD k default).to = i then fr.rd ps k else 0) rs.length
theorem val_in {ps : List Spot} {rs : List Road} {fr : Fr} {i : Nat} (hi : i < ps.length) : K.valTo (netOf ps rs) (2 + 2 * i : Nat) fr.flow (netOf ps rs).length = fr.fl i - sS ps fr i - sIn ps rs fr i := by
 rw [val_parts]
 have e1 : sumI (fun k => con (2 + 2 * i : Nat) (aP ps k) (fr.flow.getD k 0)) ps.length = fr.fl i := by
  rw [← sumI_one (f := fr.fl) hi]
  refine sumI_congr fun k _ => ?_
  simp only [Fr.rd, Fr.fl]
  by_cases h : k = i
  ·rw [if_pos h, con_f (by simp only [aP, aS, aO, aR]; omega) (by simp only [aP, aS, aO, aR]; omega)]
  ·rw [if_neg h, con_n (by simp only [aP, aS, aO, aR]; omega) (by simp only [aP, aS, aO, aR]; omega)]; try omega
 have e2 : sumI (fun k => con (2 + 2 * i : Nat) (aS ps ((ofN ps 1 ps.length).getD k 0)) (fr.flow.getD (ps.length + k) 0)) (ofN ps 1 ps.length).length = - sS ps fr i := by
  rw [sS, ← sumI_neg]
  refine sumI_congr fun k _ => ?_
  simp only [Fr.rd, Fr.fl]
  by_cases h : (ofN ps 1 ps.length).getD k 0 = i
  ·rw [if_pos h, con_t (by simp only [aP, aS, aO, aR]; omega) (by simp only [aP, aS, aO, aR]; omega)]
  ·rw [if_neg h, con_n (by simp only [aP, aS, aO, aR]; omega) (by simp only [aP, aS, aO, aR]; omega)]; try omega
 have e3 : sumI (fun k => con (2 + 2 * i : Nat) (aO ps ((ofN ps 3 ps.length).getD k 0)) (fr.flow.getD (ps.length + (ofN ps 1 ps.length).length + k) 0)) (ofN ps 3 ps.length).length = 0 := by
  refine sumI_zero fun k _ => ?_
  exact con_n (by simp only [aP, aS, aO, aR]; omega) (by simp only [aP, aS, aO, aR]; omega)
 have e4 : sumI (fun k => con (2 + 2 * i : Nat) (aR (rs.getD k default)) (fr.flow.getD (ps.length + (ofN ps 1 ps.length).length + (ofN ps 3 ps.length).length + k) 0)) rs.length = - sIn ps rs fr i := by
  rw [sIn, ← sumI_neg]
  refine sumI_congr fun k _ => ?_
  simp only [Fr.rd, Fr.fl]
  by_cases h : (rs.getD k default).to = i
  ·rw [if_pos h, con_t (by simp only [aP, aS, aO, aR]; omega) (by simp only [aP, aS, aO, aR]; omega)]
  ·rw [if_neg h, con_n (by simp only [aP, aS, aO, aR]; omega) (by simp only [aP, aS, aO, aR]; omega)]; try omega
 rw [e1, e2, e3, e4]; omega
theorem val_0 {ps : List Spot} {rs : List Road} {fr : Fr} (hv : RInv ps rs rs.length) : K.valTo (netOf ps rs) 0 fr.flow (netOf ps rs).length = sumI (fun k => fr.fl (ps.length + k)) (ofN ps 1 ps.length).length := by
 rw [val_parts]
 have e1 : sumI (fun k => con 0 (aP ps k) (fr.flow.getD k 0)) ps.length = 0 := by
  refine sumI_zero fun k _ => ?_
  exact con_n (by simp only [aP, aS, aO, aR]; omega) (by simp only [aP, aS, aO, aR]; omega)
 have e2 : sumI (fun k => con 0 (aS ps ((ofN ps 1 ps.length).getD k 0)) (fr.flow.getD (ps.length + k) 0)) (ofN ps 1 ps.length).length = sumI (fun k => fr.fl (ps.length + k)) (ofN ps 1 ps.length).length := by
  refine sumI_congr fun k _ => ?_
  simp only [Fr.rd, Fr.fl]
  exact con_f rfl (by simp only [aP, aS, aO, aR]; omega)
 have e3 : sumI (fun k => con 0 (aO ps ((ofN ps 3 ps.length).getD k 0)) (fr.flow.getD (ps.length + (ofN ps 1 ps.length).length + k) 0)) (ofN ps 3 ps.length).length = 0 := by
  refine sumI_zero fun k _ => ?_
  exact con_n (by simp only [aP, aS, aO, aR]; omega) (by simp only [aP, aS, aO, aR]; omega)
 have e4 : sumI (fun k => con 0 (aR (rs.getD k default)) (fr.flow.getD (ps.length + (ofN ps 1 ps.length).length + (ofN ps 3 ps.length).length + k) 0)) rs.length = 0 := by
  refine sumI_zero fun k hk => ?_
  obtain ⟨h1, h2, _⟩ := hv.h k hk hk
  have e : rs.getD k default = rs[k] := by rw [yA, yB hk, yL]
  rw [e]
  exact con_n (by simp only [aP, aS, aO, aR]; omega) (by simp only [aP, aS, aO, aR]; omega)
 rw [e1, e2, e3, e4]; omega
set_option maxRecDepth 20000
theorem getD_rs {rs : List Road} {k : Nat} (hk : k < rs.length) : rs.getD k default = rs[k] := by rw [yA, yB hk, yL]
theorem ofN_getD {ps : List Spot} {kind : Int} {n k : Nat} (hk : k < (ofN ps kind n).length) : (ofN ps kind n).getD k 0 < n ∧ isK ps kind ((ofN ps kind n).getD k 0) = true := by
 rw [yA, yB hk, yL]
 have := yD hk
 exact ⟨ofN_mem this, (List.mem_filter.1 this).2⟩
variable {ps : List Spot} {rs : List Road} {fr : Fr}
theorem IsPlan.len (h : IsPlan ps rs fr) : fr.flow.length = ps.length + (ofN ps 1 ps.length).length + (ofN ps 3 ps.length).length + rs.length := by
 rw [h.acc.fl.hl, netOf_len]
theorem IsPlan.caps (h : IsPlan ps rs fr) {i : Nat} (hi : i < ps.length) : fr.fl i ≤ ps[i].cap := by
 have hl := h.acc.fl.hl
 have hn := netOf_len (ps := ps) (rs := rs)
 have := (h.acc.fl.hp i (by omega) (by omega)).2
 have e : (netOf ps rs)[i]'(by omega) = aP ps i := by
  have l2 : (nA2 ps (ofN ps 1 ps.length)).length = ps.length + (ofN ps 1 ps.length).length := by
   simp only [nA2, nA1, yP, yM, yU]
  have l3 : (nA3 ps (ofN ps 3 ps.length)).length = ps.length + (ofN ps 1 ps.length).length + (ofN ps 3 ps.length).length := by
   simp only [nA3, nA2, nA1, yP, yM, yU]
  have l1 : (nA1 ps ps.length).length = ps.length := nA1_len
  simp only [netOf, nA4]
  rw [uG (by omega)]
  simp only [nA3]
  rw [uG (by omega)]
  simp only [nA2]
  rw [uG (by omega)]
  simp only [nA1, vS, uH]
 rw [e] at this
 rw [Fr.fl, yA, yB (by omega), yL]
 have e2 := capAt_lt hi
 simp only [aP] at this
 omega
theorem IsPlan.e_in (h : IsPlan ps rs fr) {i : Nat} (hi : i < ps.length) : fr.fl i = sS ps fr i + sIn ps rs fr i := by
 have h1 := val_in (rs := rs) (fr := fr) hi
 have h2 := h.acc.fl.hz (2 + 2 * i : Nat) (by omega) (by simp only [nN]; omega) (by omega) (by omega)
 omega
theorem IsPlan.sent (h : IsPlan ps rs fr) : sumI (fun k => fr.fl (ps.length + k)) (ofN ps 1 ps.length).length = fr.sent := by
 rw [← h.acc.hv, val_0 (chk_caps h.chk).2.2]
theorem sS_0 {i : Nat} (hi : isK ps 1 i = false) : sS ps fr i = 0 := sumI_zero fun k hk => if_neg fun h => by
 have := (ofN_getD hk).2; rw [h, hi] at this; cases this
theorem IsPlan.snd (h : IsPlan ps rs fr) {k : Nat} (hk : k < rs.length) : SoundP ps rs[k] := (chk_caps h.chk).2.2.h k hk hk
theorem IsPlan.in_0 (h : IsPlan ps rs fr) {i : Nat} (hi : isK ps 1 i = true) : sIn ps rs fr i = 0 := sumI_zero fun k hk => if_neg fun h2 => by
 obtain ⟨h3, h4, _, _, _, _, h5⟩ := h.snd hk
 rw [getD_rs hk] at h2
 have h6 : i < ps.length := by omega
 rw [isK_lt h6] at hi
 have : rs[k].to.toNat = i := by omega
 simp only [this] at h5
 exact h5 (by simpa using hi)
theorem all_S : sumI (sS ps fr) ps.length = sumI (fun k => fr.fl (ps.length + k)) (ofN ps 1 ps.length).length :=
 sumI_part (p := fun k => (ofN ps 1 ps.length).getD k 0) (f := fun k => fr.fl (ps.length + k)) fun k hk => (ofN_getD hk).1
def kindSum (ps : List Spot) (fr : Fr) (kind : Int) (n : Nat) : Int := sumI (fun i => if isK ps kind i then fr.fl i else 0) n
theorem IsPlan.asked (h : IsPlan ps rs fr) : kindSum ps fr 1 ps.length = fr.sent := by
 rw [← h.sent, ← all_S]
 refine sumI_congr fun i hi => ?_
 cases hk : isK ps 1 i with
 | true =>
  have h1 := h.e_in hi
  have h2 := h.in_0 hk
  simp only [if_true]; omega
 | false => rw [if_neg (by simp), sS_0 hk]
end Go.Fx.P
namespace Go.Fx.P.F
open Go Go.Fx Go.Proofs
abbrev cx0 : Cx := cxN Try.prog []
abbrev OkN (f : FuncId) (xs : List V) (h0 : List Blk) (R : V → List Blk → Prop) : Prop := Go.Fx.OkN Try.prog f xs h0 [] R
def lb (l : List Bool) : V := .ro 1 (l.map encB)
def blb (l : List Bool) : V := .bro 1 (l.map encB)
def bli (l : List Int) : V := .bro 1 (l.map encI)
variable {f : FuncId} {args : List V} {e : Env} {h : List Blk} {b : Nat} {bn : List Nat} {K : V → St → Prop}
theorem call_is {xs : List V} {x : V} (hC : Ok f xs (Is x)) (h1 : lendsOk h (fun _ => none) args ∧ wkL xs (lends h (fun _ => none) args))
  (hx : ren (fun j => some (h.length + j)) x = x) (h3 : K x ⟨e, h, b⟩) : callP ⟨C0 Try.prog, [], bn, I0 Try.prog, Y0, none⟩ f args ⟨e, h, b⟩ K :=
 Go.Fx.call_is hC h1 hx trivial h3
theorem call_isA (xs : List V) (x x' : V) (h0 h0' : List Blk) (hC : Ok f xs (IsA x h0)) (h1 : lendsOk h (fun _ => none) args ∧ wkL xs (lends h (fun _ => none) args))
  (hx : ren (fun j => some (h.length + j)) x = x') (hh : h0.map (renB (fun j => some (h.length + j))) = h0') (h3 : K x' ⟨e, h ++ h0', b⟩) : callP ⟨C0 Try.prog, [], bn, I0 Try.prog, Y0, none⟩ f args ⟨e, h, b⟩ K :=
 Go.Fx.call_isA xs x x' h0 h0' hC h1 hx hh trivial h3
theorem okN_of {f : FuncId} {l0 l : LCode} {rs : List LRes} {nt : Nat} (fx : List Nat) (hl : rlF Try.prog f l0 = some (l, rs, nt)) {args : List V} {h0 : List Blk} {R : V → List Blk → Prop} (hlen : args.length ≤ nt) (hb : keepP fx h0) (hfx : fx = yG h0.length)
  (h : aw (Go.Fx.cxN Try.prog fx) l (retP fx h0.length rs R) (fun _ _ => False) (retP fx h0.length rs R) ⟨args0 0 args, h0, 0⟩) : OkN f args h0 R :=
 Go.Fx.okN_of pol fx hl hlen hb (fun k hk _ => by rw [hfx, yX]; exact hk) h
theorem call_isN {fx : List Nat} (ι : List Nat) (xs : List V) (x x' : V) (h0 h1 h' : List Blk) (hC : OkN f xs h0 (IsA x h1))
  (hι : ι.Nodup ∧ ∀ k ∈ ι, k < h.length ∧ k ∉ bn) (r0 : ι.map (fun k => renB (pos ι) (blk h k)) = h0) (ha : lendsOk h (pos ι) args ∧ wkL xs (lends h (pos ι) args)) (hlen : ι.length ≤ h1.length)
  (hh : setAll ι (h1.map (renB (back ι h.length))) h = h') (hx : ren (back ι h.length) x = x') (keep : keepP fx h') (h3 : K x' ⟨e, h', b⟩) : callP ⟨C0 Try.prog, fx, bn, I0 Try.prog, Y0, none⟩ f args ⟨e, h, b⟩ K :=
 Go.Fx.call_isN ι xs x x' h0 h1 h' hC hι r0 ha hlen hh hx keep h3
end Go.Fx.P.F
namespace Go.Fx.P.F
open Go Go.Fx Go.Proofs
set_option maxRecDepth 20000
def validA (n : Int) (a : Arc) : Bool := decide ((0 ≤ a.from_ ∧ a.from_ < n) ∧ (0 ≤ a.to ∧ a.to < n) ∧ a.from_ ≠ a.to ∧ 0 ≤ a.cap ∧ a.cap ≤ 1073741824)
def nb (n : Int) : Blk := .var [.i n, .any]
end Go.Fx.P.F
namespace Go.Fx.P.F
open Go Go.Fx Go.Proofs
set_option maxRecDepth 20000
end Go.Fx.P.F
namespace Go.Fx.P.F
open Go Go.Fx Go.Proofs
def endsB (n f t : Int) : Bool := decide ((0 ≤ f ∧ f < n) ∧ (0 ≤ t ∧ t < n) ∧ f ≠ t)
theorem ok58 (n : Int) (arcs : List Arc) (f t : Int) : Ok 58 [net n arcs, .i f, .i t] (Is (.b (endsB n f t))) := by
 refine ok_of lw58 (by simp) ?_
 unfold c58 net
 simp -implicitDefEqProofs only [rX,↓rY,ofConst,cells?,↓reduceIte,Nat.reduceEqDiff,Nat.reduceAdd,reduceCtorEq,freshP,resP,tupV,wfV,cxN,args0]
 simp only [br, decide_eq_true_eq, decide_eq_false_iff_not, endsB]
 grind
end Go.Fx.P.F
namespace Go.Fx.P.F
open Go Go.Fx Go.Proofs
set_option maxRecDepth 20000
def valTo (arcs : List Arc) (node : Int) (flow : List Int) : Nat → Int
 | 0 => 0
 | k + 1 => valTo arcs node flow k + (if (arcs.getD k ⟨0,0,0,0⟩).from_ = node then flow.getD k 0 else 0) - (if (arcs.getD k ⟨0,0,0,0⟩).to = node then flow.getD k 0 else 0)
theorem valTo_bound (arcs : List Arc) (node : Int) (flow : List Int) (hf : ∀ x ∈ flow, 0 ≤ x ∧ x ≤ 1073741824) : ∀ k : Nat, -((k : Int) * 1073741824) ≤ valTo arcs node flow k ∧ valTo arcs node flow k ≤ (k : Int) * 1073741824
 | 0 => by simp [valTo]
 | k + 1 => by
  have h1 := valTo_bound arcs node flow hf k
  have h2 : 0 ≤ flow.getD k 0 ∧ flow.getD k 0 ≤ 1073741824 := by
   rw [yA]
   cases h : flow[k]? with
   | none => simp
   | some x => exact hf x (yF h)
  simp only [valTo]
  split <;> split <;> omega
theorem valTo_step {arcs : List Arc} {node : Int} {flow : List Int} {k : Nat} (h1 : k < arcs.length) (h2 : k < flow.length) : valTo arcs node flow (k + 1) = valTo arcs node flow k + (if arcs[k].from_ = node then flow[k] else 0) - (if arcs[k].to = node then flow[k] else 0) := by
 simp only [valTo, yA, yB h1, yB h2, yL]
end Go.Fx.P.F
namespace Go.Fx.P.F
open Go Go.Fx Go.Proofs
set_option maxRecDepth 20000
def rowF (N : Nat) (f : Int → Int) : List (List V) := (yG N).map fun j : Nat => encI (f j)
theorem rowF_len {N : Nat} {f : Int → Int} : (rowF N f).length = N := by simp [rowF]
theorem rowF_get {N : Nat} {f : Int → Int} {i : Nat} (h : i < (rowF N f).length) : (rowF N f)[i] = encI (f i) := by simp [rowF]
theorem rowF_set {N : Nat} {f : Int → Int} {i : Nat} {x : Int} : (rowF N f).set i [.v (.int .i64 x)] = rowF N (fun j => if j = i then x else f j) := by
 apply yK
 ·simp [rowF]
 ·intro j h1 h2
  simp only [vF, rowF_get]
  by_cases h : i = j
  ·subst h; simp [encI]
  ·have : ¬ (j : Int) = i := by omega
   simp [h, this]
theorem rowF_congr {N : Nat} {f g : Int → Int} (h : ∀ i : Nat, i < N → f i = g i) : rowF N f = rowF N g := by
 simp only [rowF, uI, yX]
 intro i hi
 rw [h i hi]
theorem ok60 (N : Nat) (arcs : List Arc) (flow : List Int) (hl : flow.length = arcs.length) (hb : arcs.length ≤ 4096) (hn : N ≤ 256) (hf : ∀ x ∈ flow, 0 ≤ x ∧ x ≤ 1073741824) (hv : ∀ a ∈ arcs, (0 ≤ a.from_ ∧ a.from_ < N) ∧ (0 ≤ a.to ∧ a.to < N) ∧ a.from_ ≠ a.to) :
  Ok 60 [net N arcs, li flow] (IsA (.sl 1 0 N) [.dead, .arr 1 (rowF N (fun j => valTo arcs j flow arcs.length))]) := by
 refine ok_of lw60 (by simp) ?_
 unfold c60 net li
 simp -implicitDefEqProofs only [rX,↓rY,ofConst,cells?,↓reduceIte,Nat.reduceEqDiff,Nat.reduceAdd,freshP,cxN,args0]
 refine ⟨by omega, fun hm => ?_⟩
 refine loopP_intro (fun k : Nat => ⟨[(14, .i k), (13, .i arcs.length), (12, .ro 4 (arcs.map Arc.enc)), (5, .sl 1 0 N), (1, .ro 1 (flow.map encI))], [.dead, .arr 1 (rowF N (fun j => valTo arcs j flow k))], 0⟩) (fun k => k ≤ arcs.length) (fun k => arcs.length - k) 0 (by simp) ?_ ?_
 ·have h0 : rowF N (fun j => valTo arcs j flow 0) = yC N [V.i 0] := by
   apply yK
   ·simp [rowF]
   ·intro i h1 h2
    simp [rowF, valTo, encI]
  simp -implicitDefEqProofs only [rX,↓reduceIte,Nat.reduceEqDiff,reduceCtorEq,leE,leH,leB,keepP,liveP,wfE,wfB,wfV,h0,yI]
 intro k hk
 simp -implicitDefEqProofs only [rX,↓rY,rZ,ofConst,cells?,splice,↓reduceIte,Nat.reduceEqDiff,arrSz,Nat.reduceAdd,freshP,resP,tupV,leE,leH,leB,keepP,liveP,wfE,wfB,wfV,isD,isC,Nat.reduceLeDiff,rowF_len,rowF_get,rowF_set,retP_isA]
 simp only [br, decide_eq_true_eq, decide_eq_false_iff_not]
 refine ⟨fun h => ?_, fun h => ?_⟩
 ·have hk1 : k < arcs.length := by omega
  have hk2 : k < flow.length := by omega
  have hvk := hv arcs[k] (yD hk1)
  have hfk := hf flow[k] (yD hk2)
  have hb1 := valTo_bound arcs arcs[k].from_ flow hf k
  have hb2 := valTo_bound arcs arcs[k].to flow hf k
  have e1 : ((arcs[k].from_.toNat : Nat) : Int) = arcs[k].from_ := by omega
  have e2 : ((arcs[k].to.toNat : Nat) : Int) = arcs[k].to := by omega
  have e3 : ¬ arcs[k].to = arcs[k].from_ := by omega
  simp only [e1, e2, e3, if_false, lo, hi, rowF_len]
  repeat' (first | (refine ⟨(k+1 : _), ?_⟩) | (refine ⟨by omega, ?_⟩) | (refine And.intro ?_ ?_) | (refine (fun _ => ?_)))
  all_goals try omega
  congr 1
  apply rowF_congr
  intro i hi
  simp only [valTo_step (node := i) hk1 hk2]
  grind
 ·have : k = arcs.length := by omega
  rw [this]
theorem ok37 (N : Nat) (node : Int) (arcs : List Arc) (flow : List Int) (hl : flow.length = arcs.length) (hb : arcs.length ≤ 4096) (hn : N ≤ 256) (hf : ∀ x ∈ flow, 0 ≤ x ∧ x ≤ 1073741824) (hv : ∀ a ∈ arcs, (0 ≤ a.from_ ∧ a.from_ < N) ∧ (0 ≤ a.to ∧ a.to < N) ∧ a.from_ ≠ a.to)
  (h0 : 0 ≤ node ∧ node < N) : Ok 37 [net N arcs, .i node, li flow] (Is (.i (valTo arcs node flow arcs.length))) := by
 refine ok_of lw37 (by simp) ?_
 unfold c37 net li
 simp -implicitDefEqProofs only [rX,↓rY,ofConst,cells?,↓reduceIte,Nat.reduceEqDiff,Nat.reduceAdd,reduceCtorEq,freshP,cxN,args0]
 refine call_isA [net N arcs, li flow] (.sl 1 0 N) (.sl 2 0 N) [.dead, .arr 1 (rowF N (fun j => valTo arcs j flow arcs.length))] [.dead, .arr 1 (rowF N (fun j => valTo arcs j flow arcs.length))] (ok60 N arcs flow hl hb hn hf hv) ?_ rfl rfl ?_
 ·simp [net, li, lendsOk, lendOk, lends, lend, wkL, wk, wkB, wkR, pos]
 simp -implicitDefEqProofs only [rX,↓rY,rZ,↓reduceIte,Nat.reduceEqDiff,arrSz,reduceCtorEq,resP,tupV,wfV,rowF_len,rowF_get]
 refine ⟨h0, by omega, ?_⟩
 rw [yH h0.1]
end Go.Fx.P.F
namespace Go.Fx.P.F
open Go Go.Fx Go.Proofs
set_option maxRecDepth 20000
def possP (arcs : List Arc) (flow : List Int) : Prop := ∀ i (h1 : i < flow.length) (h2 : i < arcs.length), 0 ≤ flow[i] ∧ flow[i] ≤ arcs[i].cap
open Classical in
noncomputable def possB (arcs : List Arc) (flow : List Int) : Bool := decide (flow.length = arcs.length ∧ possP arcs flow)
end Go.Fx.P.F
namespace Go.Fx.P.F
open Go Go.Fx Go.Proofs
set_option maxRecDepth 20000
def okFlow (n : Int) (arcs : List Arc) (f t : Int) (flow : List Int) : Prop := (∀ j : Int, 0 ≤ j → j < n → j ≠ f → j ≠ t → valTo arcs j flow arcs.length = 0) ∧ 0 ≤ valTo arcs f flow arcs.length
open Classical in
noncomputable def checkI (n : Int) (arcs : List Arc) (f t : Int) (flow : List Int) : Int := if ¬ (endsB n f t = true ∧ flow.length = arcs.length) then 1 else if ¬ possP arcs flow then 101 else if okFlow n arcs f t flow then 0 else 100
structure Val (N : Nat) (arcs : List Arc) : Prop where
 hn : 1 ≤ N ∧ N ≤ 256
 hl : arcs.length ≤ 2048
 ha : ∀ a ∈ arcs, ((0 ≤ a.from_ ∧ a.from_ < N) ∧ (0 ≤ a.to ∧ a.to < N) ∧ a.from_ ≠ a.to) ∧ 0 ≤ a.cap ∧ a.cap ≤ 1073741824
theorem Val.flow {N : Nat} {arcs : List Arc} (h : Val N arcs) {flow : List Int} (hl : flow.length = arcs.length) (hp : possP arcs flow) : ∀ x ∈ flow, 0 ≤ x ∧ x ≤ 1073741824 := by
 intro x hx
 obtain ⟨i, hi, rfl⟩ := yQ hx
 have h1 := hp i hi (by omega)
 have h2 := (h.ha arcs[i] (yD _)).2
 omega
structure FlInv (arcs : List Arc) (f t : Int) (flow : List Int) (k : Nat) : Prop where
 h : ∀ j : Nat, j < k → ((j : Int) ≠ f → (j : Int) ≠ t → valTo arcs j flow arcs.length = 0) ∧ ((j : Int) = f → 0 ≤ valTo arcs j flow arcs.length)
theorem ok40 (N : Nat) (arcs : List Arc) (f t : Int) (flow : List Int) (hV : Val N arcs) : Ok 40 [net N arcs, .i f, .i t, li flow] (Is (.i (checkI N arcs f t flow))) := by
 refine ok_of lw40 (by simp) ?_
 unfold c40
 simp -implicitDefEqProofs only [rX,↓rY,ofConst,cells?,↓reduceIte,Nat.reduceEqDiff,Nat.reduceAdd,reduceCtorEq,freshP,cxN,args0,net,li]
 refine call_is (ok58 N arcs f t) ?_ rfl ?_
 ·simp [net, li, lendsOk, lendOk, lends, lend, wkL, wk, wkB, wkR, pos]
 simp -implicitDefEqProofs only [rX,↓rY,ofConst,↓reduceIte,Nat.reduceEqDiff,reduceCtorEq,resP,tupV,wfV]
 simp only [br, decide_eq_true_eq, decide_eq_false_iff_not, bne_iff_ne, bne_eq_false_iff_eq]
 refine ⟨fun h => ?_, fun he hm1 hm2 => ⟨fun h => ?_, fun hl _ => ?_⟩⟩
 ·rw [checkI, if_pos]
  simp at h; simp [h]
 ·rw [checkI, if_pos]
  intro h2; omega
 simp at he
 have hl' : flow.length = arcs.length := by omega
 refine loopP_intro (fun k : Nat => ⟨[(28, .i k), (27, .i flow.length), (26, .ro 1 (flow.map encI)), (4, .ptr 0 0 0), (3, .ro 1 (flow.map encI)), (2, .i t), (1, .i f)], [.var [.i N, .ro 4 (arcs.map Arc.enc)]], 0⟩) (fun k => k ≤ arcs.length ∧ ∀ j (h1 : j < flow.length) (h2 : j < arcs.length), j < k → 0 ≤ flow[j] ∧ flow[j] ≤ arcs[j].cap) (fun k => arcs.length - k) 0 (by simp) ?_ ?_
 ·simp -implicitDefEqProofs only [rX,↓reduceIte,Nat.reduceEqDiff,reduceCtorEq,leE,leH,leB,leV,leVs,keepP,liveP,wfE,wfB,wfV,wfL,leVs,leV,yI]
 rintro k ⟨hk, hv⟩
 simp -implicitDefEqProofs only [rX,↓rY,rZ,ofConst,↓reduceIte,Nat.reduceEqDiff,Nat.reduceAdd,resP,tupV,leE,leH,leB,leV,leVs,keepP,liveP,wfE,wfB,wfV,wfL]
 simp only [br, decide_eq_true_eq, decide_eq_false_iff_not]
 refine ⟨fun h2 => ⟨⟨by omega, h2⟩, by omega, fun q => ?_, fun q1 => ⟨⟨by omega, by omega⟩, by omega, fun q => ?_, fun q2 => ⟨?_, k + 1, ⟨⟨by omega, ?_⟩, by omega⟩, by simp⟩⟩⟩, fun h2 => ?_⟩
 ·rw [checkI, if_neg (by simp [he, hl']), if_pos]
  intro hp
  have := hp k (by omega) (by omega)
  omega
 ·rw [checkI, if_neg (by simp [he, hl']), if_pos]
  intro hp
  have := hp k (by omega) (by omega)
  omega
 ·simp only [lo, hi, maxLen] at *; omega
 ·intro j h3 h4 h5
  by_cases h6 : j = k
  ·subst h6; omega
  ·exact hv j h3 h4 (by omega)
 have hp : possP arcs flow := fun i h3 h4 => hv i h3 h4 (by omega)
 have hf := hV.flow hl' hp
 have hN := hV.hn
 have hL := hV.hl
 refine call_isA [net N arcs, li flow] (.sl 1 0 N) (.sl 2 0 N) [.dead, .arr 1 (rowF N (fun j => valTo arcs j flow arcs.length))] [.dead, .arr 1 (rowF N (fun j => valTo arcs j flow arcs.length))] (ok60 N arcs flow hl' (by omega) (by omega) hf (fun a ha => (hV.ha a ha).1)) ?_ rfl rfl ?_
 ·simp [net, li, lendsOk, lendOk, lends, lend, wkL, wk, wkB, wkR, pos]
 simp -implicitDefEqProofs only [rX,↓rY,ofConst,↓reduceIte]
 intro _
 refine loopP_intro (fun k : Nat => ⟨[(50, .i k), (49, .i N), (48, .sl 2 0 N), (2, .i t), (1, .i f)], [.dead, .dead, .arr 1 (rowF N (fun j => valTo arcs j flow arcs.length))], 0⟩) (fun k => k ≤ N ∧ FlInv arcs f t flow k) (fun k => N - k) 0 ⟨by omega, ⟨by simp⟩⟩ ?_ ?_
 ·simp -implicitDefEqProofs only [rX,↓reduceIte,Nat.reduceEqDiff,leE,leH,leB,keepP,liveP,wfE,wfB,wfV,yI]
 rintro k ⟨hk, hv⟩
 simp -implicitDefEqProofs only [rX,↓rY,rZ,ofConst,↓reduceIte,Nat.reduceEqDiff,arrSz,Nat.reduceAdd,resP,tupV,leE,leH,leB,keepP,liveP,wfE,wfB,wfV,rowF_len,rowF_get]
 simp only [br, decide_eq_true_eq, decide_eq_false_iff_not, bne_iff_ne, bne_eq_false_iff_eq, beq_iff_eq, beq_eq_false_iff_ne]
 have bad : ¬ okFlow N arcs f t flow → 100 = checkI N arcs f t flow := by
  intro h
  rw [checkI, if_neg (by simp [he, hl']), if_neg (by simpa using hp), if_neg h]
 have good : okFlow N arcs f t flow → 0 = checkI N arcs f t flow := by
  intro h
  rw [checkI, if_neg (by simp [he, hl']), if_neg (by simpa using hp), if_pos h]
 have hef : (k : Int) = f → valTo arcs k flow arcs.length = valTo arcs f flow arcs.length := by rintro rfl; rfl
 have hnx : (k < N) → ((k : Int) ≠ f → (k : Int) ≠ t → valTo arcs k flow arcs.length = 0) ∧ ((k : Int) = f → 0 ≤ valTo arcs k flow arcs.length) →
   FlInv arcs f t flow (k + 1) := by
  intro h3 h4
  refine ⟨fun j hj => ?_⟩
  by_cases h6 : j = k
  ·subst h6; exact h4
  ·exact hv.h j (by omega)
 have bad1 : (0 ≤ (k : Int) ∧ (k : Int) < N) → (k : Int) ≠ f → (k : Int) ≠ t → valTo arcs k flow arcs.length ≠ 0 → 100 = checkI N arcs f t flow := fun h1 h2 h3 h4 => bad fun ho => h4 (ho.1 k h1.1 h1.2 h2 h3)
 have bad2 : (k : Int) = f → valTo arcs k flow arcs.length < 0 → 100 = checkI N arcs f t flow := fun h1 h2 => bad fun ho => by
  have := ho.2
  rw [hef h1] at h2
  omega
 refine ⟨fun h3 => ?_, fun h3 => ?_⟩
 ·have h4 : k < N := by omega
  have hnx := hnx h4
  simp only [lo, hi, maxLen] at *
  refine ⟨⟨by omega, by omega⟩, by simpa [rowF_len] using h4, ?_⟩
  repeat' (first | (refine ⟨(k+1 : _), ?_⟩) | (refine ⟨by omega, ?_⟩) | (refine And.intro ?_ ?_) | (refine (fun _ => ?_)))
  all_goals first | omega | exact bad1 ⟨by omega, h3⟩ ‹_› ‹_› ‹_› | exact bad2 ‹_› ‹_› | (exact hnx ⟨fun _ _ => by first | assumption | omega, fun _ => by omega⟩)
 ·apply good
  have hend : (0 ≤ f ∧ f < N) := by simp [endsB] at he; omega
  have hk2 : k = N := by omega
  refine ⟨fun j h1 h2 h4 h5 => ?_, ?_⟩
  ·have := (hv.h j.toNat (by omega)).1
   rw [yH h1] at this
   exact this h4 h5
  ·have := (hv.h f.toNat (by omega)).2
   rw [yH hend.1] at this
   exact this rfl
end Go.Fx.P.F
namespace Go.Fx.P.F
open Go Go.Fx Go.Proofs
set_option maxRecDepth 20000
structure FlInw (arcs : List Arc) (f t : Int) (flow : List Int) (k : Nat) : Prop where
 h : ∀ j : Nat, j < k → ((j : Int) ≠ f → (j : Int) ≠ t → valTo arcs j flow arcs.length = 0)
end Go.Fx.P.F
namespace Go.Fx.P.F
open Go Go.Fx Go.Proofs
set_option maxRecDepth 20000
def cutTo (arcs : List Arc) (cut : List Bool) : Nat → Int
 | 0 => 0
 | k + 1 => cutTo arcs cut k + (if cut.getD (arcs.getD k ⟨0,0,0,0⟩).from_.toNat false = true ∧ cut.getD (arcs.getD k ⟨0,0,0,0⟩).to.toNat false = false then (arcs.getD k ⟨0,0,0,0⟩).cap else 0)
theorem cutTo_bound (arcs : List Arc) (cut : List Bool) (ha : ∀ a ∈ arcs, 0 ≤ a.cap ∧ a.cap ≤ 1073741824) : ∀ k : Nat, 0 ≤ cutTo arcs cut k ∧ cutTo arcs cut k ≤ (k : Int) * 1073741824
 | 0 => by simp [cutTo]
 | k + 1 => by
  have h1 := cutTo_bound arcs cut ha k
  have h2 : 0 ≤ (arcs.getD k ⟨0,0,0,0⟩).cap ∧ (arcs.getD k ⟨0,0,0,0⟩).cap ≤ 1073741824 := by
   rw [yA]
   cases h : arcs[k]? with
   | none => simp
   | some x => exact ha x (yF h)
  simp only [cutTo]
  split <;> omega
theorem cutTo_step {arcs : List Arc} {cut : List Bool} {k : Nat} (h1 : k < arcs.length) (h2 : arcs[k].from_.toNat < cut.length) (h3 : arcs[k].to.toNat < cut.length) : cutTo arcs cut (k + 1) = cutTo arcs cut k + (if cut[arcs[k].from_.toNat] = true ∧ cut[arcs[k].to.toNat] = false then arcs[k].cap else 0) := by
 simp only [cutTo, yA, yB h1, yB h2, yB h3, yL]
theorem ok38 (N : Nat) (arcs : List Arc) (cut : List Bool) (hV : Val N arcs) (hc : cut.length = N) : Ok 38 [net N arcs, blb cut] (Is (.i (cutTo arcs cut arcs.length))) := by
 refine ok_of lw38 (by simp) ?_
 unfold c38
 simp -implicitDefEqProofs only [rX,↓rY,ofConst,cells?,↓reduceIte,Nat.reduceEqDiff,freshP,cxN,args0,net,blb]
 intro hm
 refine loopP_intro (fun k : Nat => ⟨[(11, .i k), (10, .i arcs.length), (9, .ro 4 (arcs.map Arc.enc)), (5, .i (cutTo arcs cut k)), (1, .bro 1 (cut.map encB))], [], 0⟩) (fun k => k ≤ arcs.length) (fun k => arcs.length - k) 0 (by simp) ?_ ?_
 ·simp -implicitDefEqProofs only [rX,↓reduceIte,Nat.reduceEqDiff,reduceCtorEq,leE,leH,keepP,wfE,wfB,wfV,cutTo,yI]
 intro k hk
 simp -implicitDefEqProofs only [rX,↓rY,rZ,ofConst,cells?,splice,↓reduceIte,Nat.reduceEqDiff,Nat.reduceAdd,freshP,resP,tupV,leE,leH,keepP,wfE,wfB,wfV]
 simp only [br, decide_eq_true_eq, decide_eq_false_iff_not]
 refine ⟨fun h => ⟨⟨by omega, h⟩, by omega, ?_⟩, fun h => ?_⟩
 ·have hk1 : k < arcs.length := by omega
  have ha := hV.ha arcs[k] (yD hk1)
  have hL := hV.hl
  have hst := cutTo_step (cut := cut) hk1 (by omega) (by omega)
  have hb := cutTo_bound arcs cut (fun a ha => (hV.ha a ha).2) k
  simp only [lo, hi, Bool.not_eq_true', Bool.not_eq_false']
  repeat' (first | (refine ⟨(k+1 : _), ?_⟩) | (refine ⟨by omega, ?_⟩) | (refine And.intro ?_ ?_) | (refine (fun _ => ?_)))
  all_goals first | omega | grind
 ·have : k = arcs.length := by omega
  rw [this]
end Go.Fx.P.F
namespace Go.Fx.P.F
open Go Go.Fx Go.Proofs
set_option maxRecDepth 20000
open Classical in
noncomputable def provesB (N : Nat) (arcs : List Arc) (f t : Int) (flow : List Int) (cut : List Bool) : Bool :=
 decide (checkI N arcs f t flow = 0 ∧ cut.length = N ∧ cut.getD f.toNat false = true ∧ cut.getD t.toNat false = false ∧ cutTo arcs cut arcs.length = valTo arcs f flow arcs.length)
theorem check0 {N : Nat} {arcs : List Arc} {f t : Int} {flow : List Int} (h : checkI N arcs f t flow = 0) : endsB N f t = true ∧ flow.length = arcs.length ∧ possP arcs flow := by
 unfold checkI at h
 split at h
 ·simp at h
 ·rename_i h1
  split at h
  ·simp at h
  ·rename_i h2
   exact ⟨(Classical.not_not.mp h1).1, (Classical.not_not.mp h1).2, Classical.not_not.mp h2⟩
theorem ok39 (N : Nat) (arcs : List Arc) (f t : Int) (flow : List Int) (cut : List Bool) (hV : Val N arcs) : Ok 39 [net N arcs, .i f, .i t, li flow, blb cut] (Is (.b (provesB N arcs f t flow cut))) := by
 refine ok_of lw39 (by simp) ?_
 unfold c39
 simp -implicitDefEqProofs only [rX,↓rY,rdK,ofConst,cells?,↓reduceIte,Nat.reduceEqDiff,Nat.reduceAdd,reduceCtorEq,freshP,cxN,args0,net,li,blb]
 refine call_is (ok40 N arcs f t flow hV) ?_ rfl ?_
 ·simp [net, li, lendsOk, lendOk, lends, lend, wkL, wk, wkB, wkR, pos]
 simp -implicitDefEqProofs only [rX,↓rY,rZ,rdK,ofConst,↓reduceIte,Nat.reduceEqDiff,Nat.reduceAdd,reduceCtorEq,resP,tupV,wfV]
 simp only [br, decide_eq_true_eq, decide_eq_false_iff_not, bne_iff_ne, bne_eq_false_iff_eq, beq_iff_eq, beq_eq_false_iff_ne]
 refine ⟨fun h0 hm => ⟨fun hc => ?_, fun h => ?_⟩, fun h => ?_⟩
 rotate_left
 ·have : ¬ cut.length = N := by omega
  simp [provesB, this]
 ·simp [provesB, h]
 have hE := check0 h0
 have he : (0 ≤ f ∧ f < N) ∧ (0 ≤ t ∧ t < N) ∧ f ≠ t := by simpa [endsB] using hE.1
 have hc' : cut.length = N := by omega
 have hf := hV.flow hE.2.1 hE.2.2
 have hL := hV.hl
 have hN := hV.hn
 have gf : cut.getD f.toNat false = cut[f.toNat]'(by omega) := by simp [yA, yB (show f.toNat < cut.length by omega)]
 have gt : cut.getD t.toNat false = cut[t.toNat]'(by omega) := by simp [yA, yB (show t.toNat < cut.length by omega)]
 refine ⟨by omega, by omega, fun h1 => ⟨by omega, by omega, fun h2 => ?_, fun h => ?_⟩, fun h => ?_⟩
 rotate_left
 ·have h : cut[t.toNat]'(by omega) = true := by simpa using h
  simp only [provesB, gt, h]; simp
 ·simp only [provesB, gf, h]; simp
 refine call_is (ok38 N arcs cut hV hc') ?_ rfl ?_
 ·simp [net, blb, lendsOk, lendOk, lends, lend, wkL, wk, wkB, wkR, pos]
 simp -implicitDefEqProofs only [rX,↓rY,↓reduceIte,Nat.reduceEqDiff]
 refine call_is (ok37 N f arcs flow hE.2.1 (by omega) hN.2 hf (fun a ha => (hV.ha a ha).1) he.1) ?_ rfl ?_
 ·simp [net, li, lendsOk, lendOk, lends, lend, wkL, wk, wkB, wkR, pos]
 simp -implicitDefEqProofs only [rX,↓rY,↓reduceIte,Nat.reduceEqDiff,resP,tupV,wfV]
 have h2 : cut[t.toNat]'(by omega) = false := by simpa using h2
 simp only [provesB, gf, gt, h0, h1, h2, hc']
 rw [Bool.eq_iff_iff]; simp
end Go.Fx.P.F
namespace Go.Fx.P.F
open Go Go.Fx Go.Proofs
set_option maxRecDepth 20000
def rowA (a : Arc) (x : Int) : List (List V) := [[.i a.from_, .i a.to, .i (a.cap - x), .i a.cost], [.i a.to, .i a.from_, .i x, .i (IntKind.wrap .i64 (-a.cost))]]
def restTo (arcs : List Arc) (flow : List Int) : Nat → List (List V)
 | 0 => []
 | k + 1 => restTo arcs flow k ++ rowA (arcs.getD k ⟨0,0,0,0⟩) (flow.getD k 0)
theorem restTo_len (arcs : List Arc) (flow : List Int) : ∀ k, (restTo arcs flow k).length = 2 * k
 | 0 => rfl
 | k + 1 => by simp [restTo, restTo_len arcs flow k, rowA]; omega
theorem restTo_step {arcs : List Arc} {flow : List Int} {k : Nat} (h1 : k < arcs.length) (h2 : k < flow.length) : restTo arcs flow (k + 1) = restTo arcs flow k ++ rowA arcs[k] flow[k] := by
 simp only [restTo, yA, yB h1, yB h2, yL]
theorem restTo_take (arcs : List Arc) (flow : List Int) (k : Nat) : yS (2 * k) (restTo arcs flow k) = restTo arcs flow k := by
 rw [← restTo_len arcs flow k, uJ]
def restP (b0 : Blk) (N : Nat) (arcs : List Arc) (flow : List Int) : Nat → List Blk
 | 0 => [b0, .var [.i 0, .nil], .var [.i N, .nil]]
 | k + 1 => [b0, .var [.i 0, .nil], .var [.i N, .sl 5 0 (2 * (k + 1))], .dead, .dead, .arr 4 (restTo arcs flow (k + 1))]
theorem restP_0 {b0 : Blk} {N : Nat} {arcs : List Arc} {flow : List Int} : restP b0 N arcs flow 0 = [b0, .var [.i 0, .nil], .var [.i N, .nil]] := rfl
theorem restP_s {b0 : Blk} {N : Nat} {arcs : List Arc} {flow : List Int} {k : Nat} : restP b0 N arcs flow (k + 1) = [b0, .var [.i 0, .nil], .var [.i N, .sl 5 0 (2 * (k + 1))], .dead, .dead, .arr 4 (restTo arcs flow (k + 1))] := rfl
def restV (N : Nat) : Nat → V
 | 0 => .agg [.i N, .nil]
 | k + 1 => .agg [.i N, .sl 5 0 (2 * (k + 1))]
def restH (N : Nat) (arcs : List Arc) (flow : List Int) : Nat → List Blk
 | 0 => []
 | k + 1 => [.dead, .dead, .dead, .dead, .dead, .arr 4 (restTo arcs flow (k + 1))]
theorem ok83 (N : Nat) (arcs : List Arc) (flow : List Int) (hV : Val N arcs) (hl : flow.length = arcs.length) (hp : possP arcs flow) : Ok 83 [net N arcs, bli flow] (IsA (restV N arcs.length) (restH N arcs flow arcs.length)) := by
 have hL := hV.hl
 refine ok_of lw83 (by simp) ?_
 unfold c83
 simp -implicitDefEqProofs only [rX,↓rY,ofConst,cells?,splice,↓reduceIte,Nat.reduceEqDiff,Nat.reduceAdd,freshP,buildP,isC,Nat.reduceLeDiff,cxN,args0,net,bli]
 intro hm
 refine loopP_intro (fun k : Nat => ⟨[(14, .i k), (13, .i arcs.length), (12, .ro 4 (arcs.map Arc.enc)), (5, .ptr 2 0 0), (4, .ptr 1 0 0), (1, .bro 1 (flow.map encI))], restP .dead N arcs flow k, 0⟩) (fun k => k ≤ arcs.length) (fun k => arcs.length - k) 0 (by simp) ?_ ?_
 ·simp -implicitDefEqProofs only [rX,↓reduceIte,Nat.reduceEqDiff,reduceCtorEq,leE,leH,leB,leV,leVs,keepP,liveP,wfE,wfB,wfV,wfL,leVs,leV,yI,restP_0]
 intro k hk
 cases k with
 | zero =>
  simp -implicitDefEqProofs only [rX,↓rY,rZ,rdK,ofConst,cells?,splice,↓reduceIte,Nat.reduceEqDiff,Nat.reduceAdd,reduceCtorEq,freshP,buildP,litsP,leE,keepP,liveP,wfE,wfV,isD,isC,Nat.reduceLT,Nat.reduceLeDiff,restP_0,yI,uK]
  simp only [br, decide_eq_true_eq, decide_eq_false_iff_not]
  refine ⟨fun h => ?_, fun h => ?_⟩
  ·have h1 : 0 < arcs.length := by omega
   have h2 : 0 < flow.length := by omega
   have hp0 := hp 0 h2 h1
   have ha := hV.ha arcs[0] (yD h1)
   refine ⟨by omega, by omega, by omega, by omega, by simp only [lo, hi]; omega, by omega, by omega, by decide, by decide, 0 + 1, by omega, by simp, ?_⟩
   simp -implicitDefEqProofs only [rX,leH,leB,leV,leVs,liveP,wfB,wfV,wfL,restP_s,restTo_step h1 h2,restTo,rowA,leVs,leV]
   simp only [yB h1, yB h2, yL]
  ·have h0 : arcs.length = 0 := by omega
   rw [h0]
   simp -implicitDefEqProofs only [rX,↓rY,↓reduceIte,Nat.reduceEqDiff,Nat.reduceAdd,resP,tupV,leH,keepP,wfB,wfV,wfL,retP_isA,restV,restH]
 | succ k =>
  simp -implicitDefEqProofs only [rX,↓rY,rZ,rdK,ofConst,cells?,splice,↓reduceIte,Nat.reduceEqDiff,Nat.reduceAdd,reduceCtorEq,freshP,buildP,litsP,leE,keepP,liveP,wfE,wfV,killE,killB,kill,kills,St.kill,isD,isC,Nat.reduceLT,Nat.reduceLeDiff,restP_s]
  simp only [br, decide_eq_true_eq, decide_eq_false_iff_not]
  refine ⟨fun h => ?_, fun h => ?_⟩
  ·have h1 : k + 1 < arcs.length := by omega
   have h2 : k + 1 < flow.length := by omega
   have hp0 := hp (k + 1) h2 h1
   have ha := hV.ha arcs[k + 1] (yD h1)
   refine ⟨by omega, by omega, by omega, by omega, by simp only [lo, hi]; omega, by omega, by omega, ⟨by rw [restTo_len]; omega, by omega⟩, by simp only [lo, hi]; omega, k + 1 + 1, by omega, by simp, ?_⟩
   simp -implicitDefEqProofs only [rX,leH,leB,leV,leVs,liveP,wfB,wfV,wfL,restP_s,restTo_step h1 h2,rowA,leVs,leV,restTo_take]
   rfl
  ·have h0 : arcs.length = k + 1 := by omega
   rw [h0]
   simp -implicitDefEqProofs only [rX,↓rY,↓reduceIte,Nat.reduceEqDiff,Nat.reduceAdd,resP,tupV,leH,leB,keepP,liveP,wfB,wfV,wfL,Nat.reduceLeDiff,retP_isA,restV,restH]
def restA (arcs : List Arc) (flow : List Int) : Nat → List Arc
 | 0 => []
 | k + 1 => restA arcs flow k ++ [⟨(arcs.getD k ⟨0,0,0,0⟩).from_, (arcs.getD k ⟨0,0,0,0⟩).to, (arcs.getD k ⟨0,0,0,0⟩).cap - flow.getD k 0, (arcs.getD k ⟨0,0,0,0⟩).cost⟩, ⟨(arcs.getD k ⟨0,0,0,0⟩).to, (arcs.getD k ⟨0,0,0,0⟩).from_, flow.getD k 0, IntKind.wrap .i64 (-(arcs.getD k ⟨0,0,0,0⟩).cost)⟩]
theorem restA_enc (arcs : List Arc) (flow : List Int) : ∀ k, restTo arcs flow k = (restA arcs flow k).map Arc.enc
 | 0 => rfl
 | k + 1 => by simp [restTo, restA, restA_enc arcs flow k, rowA, Arc.enc]
end Go.Fx.P.F
namespace Go.Fx.P.F
open Go Go.Fx Go.Proofs
def gA (R : List Arc) (i : Nat) : Arc := R.getD i ⟨0, 0, 0, 0⟩
def scanTo (R : List Arc) (k : Int) (s : List Int × List Int) : Nat → List Int × List Int
 | 0 => s
 | i + 1 => if (gA R i).from_ = k ∧ 0 < (gA R i).cap ∧ (scanTo R k s i).1.getD (gA R i).to.toNat 0 = -2 then ((scanTo R k s i).1.set (gA R i).to.toNat i, (scanTo R k s i).2 ++ [(gA R i).to]) else scanTo R k s i
def bfsTo (R : List Arc) (N : Nat) (f : Int) : Nat → List Int × List Int
 | 0 => ((yC N (-2)).set f.toNat (-1), [f])
 | h + 1 => match (bfsTo R N f h).2[h]? with
  | some k => scanTo R k (bfsTo R N f h) R.length
  | none => bfsTo R N f h
structure Srch (R : List Arc) (N : Nat) (f : Int) (t : List Int × List Int) : Prop where
 len : t.1.length = N
 nod : t.2.Nodup
 rng : ∀ v ∈ t.2, 0 ≤ v ∧ v < N
 mem : ∀ v : Nat, v < N → (t.1.getD v 0 ≠ -2 ↔ (v : Int) ∈ t.2)
 root : t.2[0]? = some f ∧ t.1.getD f.toNat 0 = -1
 par : ∀ j v, 0 < j → t.2[j]? = some v → ∃ i, i < R.length ∧ t.1.getD v.toNat 0 = (i : Int) ∧ (gA R i).to = v ∧ 0 < (gA R i).cap ∧ ∃ j', j' < j ∧ t.2[j']? = some (gA R i).from_
theorem getD_set {l : List Int} {i j : Nat} {x d : Int} (h : i < l.length) : (l.set i x).getD j d = if j = i then x else l.getD j d := by
 simp only [yA, List.getElem?_set]
 by_cases hij : i = j
 ·subst hij; simp [h]
 ·have : ¬ j = i := fun h => hij h.symm
  simp [hij, this]
theorem Srch.init {R : List Arc} {N : Nat} {f : Int} (hf : 0 ≤ f ∧ f < N) : Srch R N f ((yC N (-2)).set f.toNat (-1), [f]) := by
 have hl : f.toNat < (yC N (-2 : Int)).length := by simp; omega
 refine ⟨by simp, by simp, by simp; omega, ?_, ⟨rfl, ?_⟩, ?_⟩
 ·intro v hv
  simp only [getD_set hl, yT]
  by_cases h : v = f.toNat
  ·simp only [h, if_true]
   refine ⟨fun _ => by omega, fun _ => by omega⟩
  ·simp only [h, if_false]
   have : ((yC N (-2 : Int)).getD v 0) = -2 := by
    simp [yA, vT, hv]
   rw [this]
   refine ⟨fun h => absurd rfl h, fun h2 => ?_⟩
   omega
 ·rw [getD_set hl]; simp
 ·intro j v hj h
  cases j with
  | zero => omega
  | succ j => simp at h
theorem Srch.scan {R : List Arc} {N : Nat} {f : Int} {t : List Int × List Int} (hf : 0 ≤ f ∧ f < N) (hR : ∀ i, i < R.length → (0 ≤ (gA R i).to ∧ (gA R i).to < N)) (h : Srch R N f t) {k : Int} (hk : k ∈ t.2) :
  ∀ i, i ≤ R.length → Srch R N f (scanTo R k t i) ∧ (∀ v, v ∈ t.2 → v ∈ (scanTo R k t i).2) ∧ t.2 <+: (scanTo R k t i).2
 | 0, _ => ⟨h, fun _ h => h, vX _⟩
 | i + 1, hi => by
  obtain ⟨h1, h2, h3⟩ := Srch.scan hf hR h hk i (by omega)
  have hr := hR i (by omega)
  unfold scanTo
  split
  ·rename_i hc
   obtain ⟨c1, c2, c3⟩ := hc
   have hlt : (gA R i).to.toNat < (scanTo R k t i).1.length := by rw [h1.len]; omega
   have hcast : (((gA R i).to.toNat : Nat) : Int) = (gA R i).to := by omega
   have hnew : (gA R i).to ∉ (scanTo R k t i).2 := by
    intro hm
    have := (h1.mem (gA R i).to.toNat (by omega)).2 (by rw [hcast]; exact hm)
    exact this c3
   have hk2 : k ∈ (scanTo R k t i).2 := h2 k hk
   refine ⟨⟨by simp [h1.len], ?_, ?_, ?_, ⟨?_, ?_⟩, ?_⟩, ?_, ?_⟩
   ·rw [List.nodup_append]
    refine ⟨h1.nod, by simp, ?_⟩
    intro a ha b hb
    rw [yT] at hb
    subst hb
    intro he
    subst he
    exact hnew ha
   ·intro v hv
    rw [vJ, yT] at hv
    rcases hv with hv | rfl
    ·exact h1.rng v hv
    ·exact hr
   ·intro v hv
    rw [getD_set hlt, vJ, yT]
    by_cases he : v = (gA R i).to.toNat
    ·simp only [he, if_true, hcast, or_true, iff_true]; omega
    ·simp only [he, if_false]
     rw [h1.mem v hv]
     refine ⟨fun h => .inl h, fun h => h.resolve_right fun h => by omega⟩
   ·have := h1.root.1
    cases hq : (scanTo R k t i).2 with
    | nil => rw [hq] at this; simp at this
    | cons a r => rw [hq] at this; simpa using this
   ·have h0 : f ∈ (scanTo R k t i).2 := yF h1.root.1
    have hne : ¬ f.toNat = (gA R i).to.toNat := by
     intro he
     have : f = (gA R i).to := by omega
     rw [this] at h0
     exact hnew h0
    rw [getD_set hlt, if_neg hne]
    exact h1.root.2
   ·intro j v hj hv
    by_cases hjl : j < (scanTo R k t i).2.length
    ·rw [yY hjl] at hv
     obtain ⟨i', q1, q2, q3, q4, j', q5, q6⟩ := h1.par j v hj hv
     have hv2 : v ∈ (scanTo R k t i).2 := yF hv
     have hvr := h1.rng v hv2
     have hne : ¬ v.toNat = (gA R i).to.toNat := by
      intro he
      have : v = (gA R i).to := by omega
      rw [this] at hv2
      exact hnew hv2
     refine ⟨i', q1, ?_, q3, q4, j', q5, ?_⟩
     ·rw [getD_set hlt, if_neg hne]; exact q2
     ·rw [yY (by omega)]; exact q6
    ·rw [vE (by omega)] at hv
     have hje : j = (scanTo R k t i).2.length := by
      have : j - (scanTo R k t i).2.length < 1 := by
       rw [yN] at hv
       obtain ⟨hb, _⟩ := hv
       simpa using hb
      omega
     subst hje
     simp at hv
     subst hv
     obtain ⟨j', hj', hj2⟩ := yQ hk2
     refine ⟨i, by omega, ?_, rfl, c2, j', hj', ?_⟩
     ·rw [getD_set hlt]; simp
     ·rw [yY hj', c1, yB hj', hj2]
   ·intro v hv
    rw [vJ]
    exact .inl (h2 v hv)
   ·exact List.IsPrefix.trans h3 (List.prefix_append _ _)
  ·exact ⟨h1, h2, h3⟩
theorem Srch.bfs {R : List Arc} {N : Nat} {f : Int} (hf : 0 ≤ f ∧ f < N) (hR : ∀ i, i < R.length → (0 ≤ (gA R i).to ∧ (gA R i).to < N)) : ∀ h, Srch R N f (bfsTo R N f h)
 | 0 => Srch.init hf
 | h + 1 => by
  have ih := Srch.bfs hf hR h
  unfold bfsTo
  split
  ·rename_i k hk
   exact (Srch.scan hf hR ih (yF hk) R.length (yE _)).1
  ·exact ih
end Go.Fx.P.F
namespace Go.Fx.P.F
open Go Go.Fx Go.Proofs
theorem nodup_le {l : List Int} (N : Nat) (hn : l.Nodup) (hr : ∀ v ∈ l, 0 ≤ v ∧ v < N) : l.length ≤ N := by
 have h1 : (l.map yO).Nodup := by
  rw [uL, List.pairwise_map]
  refine List.Pairwise.imp_of_mem ?_ hn
  intro a b ha hb hab he
  have := hr a ha
  have := hr b hb
  omega
 have h2 : (l.map yO) ⊆ yG N := by
  intro x hx
  rw [yV] at hx
  obtain ⟨a, ha, rfl⟩ := hx
  have := hr a ha
  rw [yX]; omega
 have h3 := List.Nodup.length_le_of_subset h1 h2
 simpa using h3
theorem bfs_stay {R : List Arc} {N : Nat} {f : Int} {h : Nat} (hh : (bfsTo R N f h).2.length ≤ h) : ∀ j, h ≤ j → bfsTo R N f j = bfsTo R N f h
 | 0, hj => by
  have : h = 0 := by omega
  rw [this]
 | j + 1, hj => by
  by_cases he : h = j + 1
  ·rw [he]
  ·have ih := bfs_stay hh j (by omega)
   conv => lhs; unfold bfsTo
   rw [ih]
   have : (bfsTo R N f h).2[j]? = none := by
    rw [List.getElem?_eq_none_iff]; omega
   rw [this]
def srch (R : List Arc) (N : Nat) (f : Int) : List Int × List Int := bfsTo R N f N
theorem srch_of {R : List Arc} {N : Nat} {f : Int} (hf : 0 ≤ f ∧ f < N) (hR : ∀ i, i < R.length → (0 ≤ (gA R i).to ∧ (gA R i).to < N)) {h : Nat} (hh : (bfsTo R N f h).2.length ≤ h) : bfsTo R N f h = srch R N f := by
 by_cases hN : h ≤ N
 ·exact (bfs_stay hh N hN).symm
 ·have h1 := Srch.bfs hf hR N
  exact bfs_stay (nodup_le N h1.nod h1.rng) h (by omega)
def walk (R : List Arc) (t : List Int × List Int) : Nat → Int → List Nat
 | 0, _ => []
 | n + 1, k => if t.1.getD k.toNat 0 < 0 then [] else (t.1.getD k.toNat 0).toNat :: walk R t n (gA R (t.1.getD k.toNat 0).toNat).from_
theorem Srch.pos {R : List Arc} {N : Nat} {f : Int} {t : List Int × List Int} (h : Srch R N f t) {j : Nat} {v : Int} (hv : t.2[j]? = some v) : (j = 0 ∧ v = f) ∨ (0 < j ∧ v ≠ f) := by
 cases j with
 | zero => rw [h.root.1] at hv; simp at hv; exact .inl ⟨rfl, hv.symm⟩
 | succ j =>
  refine .inr ⟨by omega, fun he => ?_⟩
  subst he
  have h0 := h.root.1
  have := h.nod
  rw [uL, uW] at this
  rw [yN] at h0 hv
  obtain ⟨a, ha⟩ := h0
  obtain ⟨b, hb⟩ := hv
  exact this 0 (j + 1) a b (by omega) (by rw [ha, hb])
theorem walk_root {R : List Arc} {N : Nat} {f : Int} {t : List Int × List Int} (h : Srch R N f t) (n : Nat) : walk R t n f = [] := by
 cases n with
 | zero => rfl
 | succ n => unfold walk; rw [h.root.2]; simp
theorem walk_step {R : List Arc} {N : Nat} {f : Int} {t : List Int × List Int} (h : Srch R N f t) {j : Nat} {v : Int} (hj : 0 < j) (hv : t.2[j]? = some v) (n : Nat) :
  ∃ i, i < R.length ∧ t.1.getD v.toNat 0 = (i : Int) ∧ (gA R i).to = v ∧ 0 < (gA R i).cap ∧ (∃ j', j' < j ∧ t.2[j']? = some (gA R i).from_) ∧ walk R t (n + 1) v = i :: walk R t n (gA R i).from_ := by
 obtain ⟨i, h1, h2, h3, h4, h5⟩ := h.par j v hj hv
 refine ⟨i, h1, h2, h3, h4, h5, ?_⟩
 conv => lhs; unfold walk
 rw [h2, if_neg (by omega)]
 simp
theorem walk_fuel {R : List Arc} {N : Nat} {f : Int} {t : List Int × List Int} (h : Srch R N f t) : ∀ (j : Nat) (v : Int) (n : Nat), t.2[j]? = some v → j ≤ n → walk R t n v = walk R t j v := by
 intro j
 induction j using vY with
 | _ j ih =>
  intro v n hv hn
  rcases h.pos hv with ⟨rfl, rfl⟩ | ⟨hj, _⟩
  ·rw [walk_root h, walk_root h]
  ·cases j with
   | zero => omega
   | succ j =>
    cases n with
    | zero => omega
    | succ n =>
     obtain ⟨i, h1, h2, h3, h4, ⟨j', h5, h6⟩, h7⟩ := walk_step h (by omega) hv n
     obtain ⟨i', g1, g2, g3, g4, _, g7⟩ := walk_step h (by omega) hv j
     have : i = i' := by omega
     subst this
     rw [h7, g7, ih j' h5 _ n h6 (by omega), ih j' h5 _ j h6 (by omega)]
end Go.Fx.P.F
namespace Go.Fx.P.F
open Go Go.Fx Go.Proofs
theorem restA_len (arcs : List Arc) (fl : List Int) : ∀ k, (restA arcs fl k).length = 2 * k
 | 0 => rfl
 | k + 1 => by simp [restA, restA_len arcs fl k]; omega
theorem getD_app {l r : List Arc} {i : Nat} {d : Arc} : (l ++ r).getD i d = if i < l.length then l.getD i d else r.getD (i - l.length) d := by
 simp only [yA]
 by_cases h : i < l.length
 ·rw [yY h, if_pos h]
 ·rw [vE (by omega), if_neg h]
theorem restA_even (arcs : List Arc) (fl : List Int) : ∀ k q, q < k → gA (restA arcs fl k) (2 * q) = ⟨(gA arcs q).from_, (gA arcs q).to, (gA arcs q).cap - fl.getD q 0, (gA arcs q).cost⟩
 | 0, q, h => by omega
 | k + 1, q, h => by
  unfold gA restA
  rw [getD_app, restA_len]
  by_cases h2 : q = k
  ·subst h2; simp
  ·rw [if_pos (by omega)]
   exact restA_even arcs fl k q (by omega)
theorem restA_odd (arcs : List Arc) (fl : List Int) : ∀ k q, q < k → gA (restA arcs fl k) (2 * q + 1) = ⟨(gA arcs q).to, (gA arcs q).from_, fl.getD q 0, IntKind.wrap .i64 (-(gA arcs q).cost)⟩
 | 0, q, h => by omega
 | k + 1, q, h => by
  unfold gA restA
  rw [getD_app, restA_len]
  by_cases h2 : q = k
  ·subst h2; simp; intro h; omega
  ·rw [if_pos (by omega)]
   exact restA_odd arcs fl k q (by omega)
def push1 (d : Int) (fl : List Int) (i : Nat) : List Int := if i % 2 = 0 then fl.set (i / 2) (fl.getD (i / 2) 0 + d) else fl.set (i / 2) (fl.getD (i / 2) 0 - d)
def pushAll (d : Int) (fl : List Int) (p : List Nat) : List Int := p.foldl (push1 d) fl
def leastOf (R : List Arc) (p : List Nat) (m : Int) : Int := p.foldl (fun m i => min m (gA R i).cap) m
def round (arcs : List Arc) (N : Nat) (f t : Int) (fl : List Int) : Option (List Int) :=
 if (srch (restA arcs fl arcs.length) N f).1.getD t.toNat 0 = -2 then none
 else some (pushAll (leastOf (restA arcs fl arcs.length) (walk (restA arcs fl arcs.length) (srch (restA arcs fl arcs.length) N f) N t) 1073741824) fl (walk (restA arcs fl arcs.length) (srch (restA arcs fl arcs.length) N f) N t))
inductive Run (arcs : List Arc) (N : Nat) (f t : Int) : List Int → List Int → Prop where
 | stop {fl : List Int} (h : round arcs N f t fl = none) : Run arcs N f t fl fl
 | go {fl fl' r : List Int} (h : round arcs N f t fl = some fl') (h2 : Run arcs N f t fl' r) : Run arcs N f t fl r
theorem valTo_set (arcs : List Arc) (x : Int) (fl : List Int) (q : Nat) (e : Int) (hq : q < fl.length) : ∀ k, valTo arcs x (fl.set q (fl.getD q 0 + e)) k = valTo arcs x fl k + (if q < k then (if (gA arcs q).from_ = x then e else 0) - (if (gA arcs q).to = x then e else 0) else 0)
 | 0 => by simp [valTo]
 | k + 1 => by
  have ih := valTo_set arcs x fl q e hq k
  simp only [valTo, ih, getD_set hq]
  by_cases h : k = q
  ·subst h
   simp only [if_true, Nat.lt_irrefl, if_false, Nat.lt_succ_self, gA]
   split <;> split <;> omega
  ·simp only [h, if_false]
   by_cases h2 : q < k
   ·simp only [h2, if_true, show q < k + 1 by omega]
    omega
   ·simp only [h2, if_false, show ¬ q < k + 1 by omega]
    omega
theorem push1_len {d : Int} {fl : List Int} {i : Nat} : (push1 d fl i).length = fl.length := by
 unfold push1; split <;> simp
theorem valTo_push (arcs : List Arc) (x : Int) (fl : List Int) (d : Int) (i : Nat) (hl : fl.length = arcs.length) (hi : i < 2 * arcs.length) (fl0 : List Int) :
  valTo arcs x (push1 d fl i) arcs.length = valTo arcs x fl arcs.length + (if (gA (restA arcs fl0 arcs.length) i).from_ = x then d else 0) - (if (gA (restA arcs fl0 arcs.length) i).to = x then d else 0) := by
 have hq : i / 2 < arcs.length := by omega
 unfold push1
 by_cases h : i % 2 = 0
 ·have hi2 : i = 2 * (i / 2) := by omega
  rw [if_pos h, valTo_set arcs x fl (i / 2) d (by omega), if_pos hq]
  conv => rhs; rw [hi2]
  simp only [restA_even arcs fl0 _ _ hq]
  omega
 ·have hi2 : i = 2 * (i / 2) + 1 := by omega
  have : fl.getD (i / 2) 0 - d = fl.getD (i / 2) 0 + (-d) := by omega
  rw [if_neg h, this, valTo_set arcs x fl (i / 2) (-d) (by omega), if_pos hq]
  conv => rhs; rw [hi2]
  simp only [restA_odd arcs fl0 _ _ hq]
  split <;> split <;> omega
end Go.Fx.P.F
namespace Go.Fx.P.F
open Go Go.Fx Go.Proofs
theorem pushAll_len {d : Int} : ∀ {p : List Nat} {fl : List Int}, (pushAll d fl p).length = fl.length
 | [], fl => rfl
 | i :: p, fl => by
  show (pushAll d (push1 d fl i) p).length = _
  rw [pushAll_len, push1_len]
theorem valTo_pushAll (arcs : List Arc) (N : Nat) (f : Int) (fl0 : List Int) {t : List Int × List Int} (h : Srch (restA arcs fl0 arcs.length) N f t) (x d : Int) : ∀ (j : Nat) (v : Int) (fl : List Int), t.2[j]? = some v → fl.length = arcs.length →
  valTo arcs x (pushAll d fl (walk (restA arcs fl0 arcs.length) t j v)) arcs.length = valTo arcs x fl arcs.length + (if f = x then d else 0) - (if v = x then d else 0) := by
 intro j
 induction j using vY with
 | _ j ih =>
  intro v fl hv hl
  rcases h.pos hv with ⟨rfl, rfl⟩ | ⟨hj, _⟩
  ·rw [walk_root h]
   show valTo arcs x fl _ = _
   omega
  ·cases j with
   | zero => omega
   | succ j =>
    obtain ⟨i, h1, h2, h3, h4, ⟨j', h5, h6⟩, h7⟩ := walk_step h (by omega) hv j
    rw [h7, ← walk_fuel h j' _ j h6 (by omega) |>.symm]
    show valTo arcs x (pushAll d (push1 d fl i) _) _ = _
    rw [ih j' h5 _ (push1 d fl i) h6 (by rw [push1_len]; exact hl), valTo_push arcs x fl d i hl (by rw [restA_len] at h1; exact h1) fl0, h3]
    omega
end Go.Fx.P.F
namespace Go.Fx.P.F
open Go Go.Fx Go.Proofs
theorem Srch.uni {R : List Arc} {N : Nat} {f : Int} {t : List Int × List Int} (h : Srch R N f t) {a b : Nat} {v : Int} (ha : t.2[a]? = some v) (hb : t.2[b]? = some v) : a = b := by
 have hn := h.nod
 rw [uL, uW] at hn
 rw [yN] at ha hb
 obtain ⟨q1, q2⟩ := ha
 obtain ⟨q3, q4⟩ := hb
 rcases Nat.lt_trichotomy a b with h1 | h1 | h1
 ·exact absurd (q2.trans q4.symm) (hn a b q1 q3 h1)
 ·exact h1
 ·exact absurd (q4.trans q2.symm) (hn b a q3 q1 h1)
theorem walk_arcs {R : List Arc} {N : Nat} {f : Int} {t : List Int × List Int} (h : Srch R N f t) : ∀ (j : Nat) (v : Int), t.2[j]? = some v → ∀ i ∈ walk R t j v,
  i < R.length ∧ 0 < (gA R i).cap ∧ ∃ a b, a < b ∧ b ≤ j ∧ t.2[a]? = some (gA R i).from_ ∧ t.2[b]? = some (gA R i).to := by
 intro j
 induction j using vY with
 | _ j ih =>
  intro v hv i hi
  rcases h.pos hv with ⟨rfl, rfl⟩ | ⟨hj, _⟩
  ·rw [walk_root h] at hi; simp at hi
  ·cases j with
   | zero => omega
   | succ j =>
    obtain ⟨i0, h1, h2, h3, h4, ⟨j', h5, h6⟩, h7⟩ := walk_step h (by omega) hv j
    rw [h7, yZ] at hi
    rcases hi with rfl | hi
    ·exact ⟨h1, h4, j', j + 1, h5, yE _, h6, by rw [h3]; exact hv⟩
    ·rw [walk_fuel h j' _ j h6 (by omega)] at hi
     obtain ⟨q1, q2, a, b, q3, q4, q5, q6⟩ := ih j' h5 _ h6 i hi
     exact ⟨q1, q2, a, b, q3, by omega, q5, q6⟩
theorem walk_halves (arcs : List Arc) (N : Nat) (f : Int) (fl0 : List Int) {t : List Int × List Int} (h : Srch (restA arcs fl0 arcs.length) N f t) : ∀ (j : Nat) (v : Int), t.2[j]? = some v → ((walk (restA arcs fl0 arcs.length) t j v).map (·/ 2)).Nodup := by
 intro j
 induction j using vY with
 | _ j ih =>
  intro v hv
  rcases h.pos hv with ⟨rfl, rfl⟩ | ⟨hj, _⟩
  ·rw [walk_root h]; simp
  ·cases j with
   | zero => omega
   | succ j =>
    obtain ⟨i, h1, h2, h3, h4, ⟨j', h5, h6⟩, h7⟩ := walk_step h (by omega) hv j
    rw [h7, walk_fuel h j' _ j h6 (by omega), vL, List.nodup_cons]
    refine ⟨fun hm => ?_, ih j' h5 _ h6⟩
    rw [yV] at hm
    obtain ⟨i2, q1, q2⟩ := hm
    obtain ⟨q3, q4, a, b, q5, q6, q7, q8⟩ := walk_arcs h j' _ h6 i2 q1
    have hq : i / 2 < arcs.length := by rw [restA_len] at h1; omega
    rw [← h3] at hv
    by_cases he : i2 % 2 = i % 2
    ·have : i2 = i := by omega
     subst this
     have := h.uni hv q8
     omega
    ·by_cases hp : i % 2 = 0
     ·have e1 : i = 2 * (i / 2) := by omega
      have e2 : i2 = 2 * (i / 2) + 1 := by omega
      rw [e1, restA_even arcs fl0 _ _ hq] at hv
      rw [e2, restA_odd arcs fl0 _ _ hq] at q7
      have := h.uni hv q7
      omega
     ·have e1 : i = 2 * (i / 2) + 1 := by omega
      have e2 : i2 = 2 * (i / 2) := by omega
      rw [e1, restA_odd arcs fl0 _ _ hq] at hv
      rw [e2, restA_even arcs fl0 _ _ hq] at q7
      have := h.uni hv q7
      omega
theorem pushAll_get {d : Int} : ∀ {p : List Nat} {fl : List Int}, (p.map (·/ 2)).Nodup → (∀ i ∈ p, i / 2 < fl.length) → ∀ q, (pushAll d fl p).getD q 0 = fl.getD q 0 + (if 2 * q ∈ p then d else 0) - (if 2 * q + 1 ∈ p then d else 0)
 | [], fl, _, _, q => by simp [pushAll]
 | i :: p, fl, hn, hi, q => by
  show (pushAll d (push1 d fl i) p).getD q 0 = _
  rw [vL, List.nodup_cons] at hn
  have hlt := hi i vC
  rw [pushAll_get hn.2 (fun i h => by rw [push1_len]; exact hi i (vD _ h))]
  have hno : ∀ i2, i2 / 2 = i / 2 → i2 ∉ p := fun i2 h2 hm => hn.1 (by rw [yV]; exact ⟨i2, hm, h2⟩)
  by_cases hq : q = i / 2
  ·subst hq
   have n1 := hno (2 * (i / 2)) (by omega)
   have n2 := hno (2 * (i / 2) + 1) (by omega)
   simp only [n1, n2, if_false, yZ, or_false]
   unfold push1
   by_cases hp : i % 2 = 0
   ·rw [if_pos hp, getD_set hlt, if_pos rfl, if_pos (by omega), if_neg (by omega)]; omega
   ·rw [if_neg hp, getD_set hlt, if_pos rfl, if_neg (by omega), if_pos (by omega)]; omega
  ·have m1 : 2 * q ∈ i :: p ↔ 2 * q ∈ p := by
    rw [yZ]; exact ⟨fun h => h.resolve_left (by omega), .inr⟩
   have m2 : 2 * q + 1 ∈ i :: p ↔ 2 * q + 1 ∈ p := by
    rw [yZ]; exact ⟨fun h => h.resolve_left (by omega), .inr⟩
   have : (push1 d fl i).getD q 0 = fl.getD q 0 := by
    unfold push1
    split <;> rw [getD_set hlt, if_neg hq]
   rw [this]
   simp only [m1, m2]
end Go.Fx.P.F
namespace Go.Fx.P.F
open Go Go.Fx Go.Proofs
theorem leastOf_le (R : List Arc) : ∀ (p : List Nat) (m : Int), leastOf R p m ≤ m ∧ ∀ i ∈ p, leastOf R p m ≤ (gA R i).cap
 | [], m => ⟨vK _, by simp⟩
 | i :: p, m => by
  have h := leastOf_le R p (min m (gA R i).cap)
  have e : leastOf R (i :: p) m = leastOf R p (min m (gA R i).cap) := rfl
  rw [e]
  refine ⟨by omega, fun i2 h2 => ?_⟩
  rw [yZ] at h2
  rcases h2 with rfl | h2
  ·omega
  ·exact h.2 i2 h2
theorem leastOf_pos (R : List Arc) : ∀ (p : List Nat) (m : Int), 0 < m → (∀ i ∈ p, 0 < (gA R i).cap) → 0 < leastOf R p m
 | [], m, h, _ => h
 | i :: p, m, h, hp => leastOf_pos R p _ (by have := hp i vC; show 0 < min m (gA R i).cap; omega) (fun i h => hp i (vD _ h))
theorem getD_nil {a : Arc} {arcs : List Arc} {q : Nat} (h : q < arcs.length) : gA arcs q = arcs[q] := by
 simp [gA, yA, yB h]
theorem poss_iff {arcs : List Arc} {fl : List Int} (hl : fl.length = arcs.length) : possP arcs fl ↔ ∀ q, q < arcs.length → 0 ≤ fl.getD q 0 ∧ fl.getD q 0 ≤ (gA arcs q).cap := by
 refine ⟨fun h q hq => ?_, fun h q h1 h2 => ?_⟩
 ·have := h q (by omega) hq
  rw [yA, yB (by omega), getD_nil (a := ⟨0,0,0,0⟩) hq]
  exact this
 ·have := h q h2
  rw [yA, yB h1, getD_nil (a := ⟨0,0,0,0⟩) h2] at this
  exact this
theorem rest_to {N : Nat} {arcs : List Arc} (hV : Val N arcs) (fl : List Int) : ∀ i, i < (restA arcs fl arcs.length).length → 0 ≤ (gA (restA arcs fl arcs.length) i).to ∧ (gA (restA arcs fl arcs.length) i).to < N := by
 intro i hi
 rw [restA_len] at hi
 have hq : i / 2 < arcs.length := by omega
 have := hV.ha arcs[i / 2] (yD hq)
 by_cases hp : i % 2 = 0
 ·have e1 : i = 2 * (i / 2) := by omega
  rw [e1, restA_even arcs fl _ _ hq, getD_nil (a := ⟨0,0,0,0⟩) hq]
  exact this.1.2.1
 ·have e1 : i = 2 * (i / 2) + 1 := by omega
  rw [e1, restA_odd arcs fl _ _ hq, getD_nil (a := ⟨0,0,0,0⟩) hq]
  exact this.1.1
theorem round_ok {N : Nat} {arcs : List Arc} (hV : Val N arcs) {f t : Int} (hf : 0 ≤ f ∧ f < N) (ht : 0 ≤ t ∧ t < N) {fl fl' : List Int} (hl : fl.length = arcs.length) (hp : possP arcs fl) (h : round arcs N f t fl = some fl') :
  fl'.length = arcs.length ∧ possP arcs fl' ∧ ∃ d, 0 < d ∧ ∀ x, valTo arcs x fl' arcs.length = valTo arcs x fl arcs.length + (if f = x then d else 0) - (if t = x then d else 0) := by
 unfold round at h
 split at h
 ·simp at h
 rename_i hb
 simp only [yJ] at h
 have hS : Srch (restA arcs fl arcs.length) N f (srch (restA arcs fl arcs.length) N f) := Srch.bfs hf (rest_to hV fl) N
 have htm : t ∈ (srch (restA arcs fl arcs.length) N f).2 := by
  have := (hS.mem t.toNat (by omega)).1 hb
  rwa [yH ht.1] at this
 obtain ⟨j, hj, hjt⟩ := yQ htm
 have hjt : (srch (restA arcs fl arcs.length) N f).2[j]? = some t := by rw [yB hj, hjt]
 have hjN : j ≤ N := by
  have := nodup_le N hS.nod hS.rng
  omega
 rw [walk_fuel hS j t N hjt hjN] at h
 have ha := walk_arcs hS j t hjt
 have hh := walk_halves arcs N f fl hS j t hjt
 generalize hw : walk (restA arcs fl arcs.length) (srch (restA arcs fl arcs.length) N f) j t = p at h ha hh
 have hd := leastOf_le (restA arcs fl arcs.length) p 1073741824
 have hd0 := leastOf_pos (restA arcs fl arcs.length) p 1073741824 (by omega) (fun i hi => (ha i hi).2.1)
 generalize hdd : leastOf (restA arcs fl arcs.length) p 1073741824 = d at h hd hd0
 have hlen : fl'.length = arcs.length := by rw [← h, pushAll_len, hl]
 refine ⟨hlen, ?_, d, hd0, fun x => ?_⟩
 ·rw [poss_iff hlen]
  intro q hq
  have h0 := (poss_iff hl).1 hp q hq
  rw [← h, pushAll_get hh (fun i hi => by have := (ha i hi).1; rw [restA_len] at this; omega)]
  have c1 : 2 * q ∈ p → d ≤ (gA arcs q).cap - fl.getD q 0 := by
   intro hm
   have := hd.2 _ hm
   rw [restA_even arcs fl _ _ hq] at this
   exact this
  have c2 : 2 * q + 1 ∈ p → d ≤ fl.getD q 0 := by
   intro hm
   have := hd.2 _ hm
   rw [restA_odd arcs fl _ _ hq] at this
   exact this
  by_cases m1 : 2 * q ∈ p
  ·by_cases m2 : 2 * q + 1 ∈ p
   ·have := c1 m1; have := c2 m2
    simp only [m1, m2, if_true]; omega
   ·have := c1 m1
    simp only [m1, m2, if_true, if_false]; omega
  ·by_cases m2 : 2 * q + 1 ∈ p
   ·have := c2 m2
    simp only [m1, m2, if_true, if_false]; omega
   ·simp only [m1, m2, if_false]; omega
 ·rw [← h, ← hw, valTo_pushAll arcs N f fl hS x d j t fl hjt hl]
theorem run_ends {N : Nat} {arcs : List Arc} (hV : Val N arcs) {f t : Int} (hf : 0 ≤ f ∧ f < N) (ht : 0 ≤ t ∧ t < N) (hft : f ≠ t) : ∀ (c : Nat) (fl : List Int), fl.length = arcs.length → possP arcs fl → (arcs.length : Int) * 1073741824 - valTo arcs f fl arcs.length ≤ c → ∃ r, Run arcs N f t fl r
 | c, fl, hl, hp, hc => by
  cases hr : round arcs N f t fl with
  | none => exact ⟨fl, .stop hr⟩
  | some fl' =>
   obtain ⟨h1, h2, d, h3, h4⟩ := round_ok hV hf ht hl hp hr
   have h5 := h4 f
   rw [if_pos rfl, if_neg (fun h => hft h.symm)] at h5
   have hb := valTo_bound arcs f fl' (hV.flow h1 h2) arcs.length
   cases c with
   | zero => omega
   | succ c =>
    obtain ⟨r, hr2⟩ := run_ends hV hf ht hft c fl' h1 h2 (by omega)
    exact ⟨r, .go hr hr2⟩
theorem Run.det {N : Nat} {arcs : List Arc} {f t : Int} {a b c : List Int} (h : Run arcs N f t a b) (h2 : Run arcs N f t a c) : b = c := by
 induction h with
 | stop h1 => cases h2 with
  | stop _ => rfl
  | go h3 _ => rw [h1] at h3; simp at h3
 | go h1 _ ih => cases h2 with
  | stop h3 => rw [h1] at h3; simp at h3
  | go h3 h4 =>
   rw [h1] at h3
   simp only [yJ] at h3
   subst h3
   exact ih h4
end Go.Fx.P.F
namespace Go.Fx.P.F
open Go Go.Fx Go.Proofs
set_option maxRecDepth 20000
theorem encB_drop (x : Bool) : vU 1 (encB x) = [] := rfl
def cutK (N : Nat) (b : List Int) (k : Nat) : List Bool := (yG N).map fun q => decide (q < k) && (b.getD q 0 != -2)
theorem cutK_len {N : Nat} {b : List Int} {k : Nat} : (cutK N b k).length = N := by simp [cutK]
def cutOf (arcs : List Arc) (N : Nat) (f : Int) (fl : List Int) : List Bool := cutK N (srch (restA arcs fl arcs.length) N f).1 N
end Go.Fx.P.F
namespace Go.Fx.P.F
open Go Go.Fx Go.Proofs
theorem get12 {α : Type} {a b c d e f g h i j k m : α} {l : List α} {q : Nat} : (a :: b :: c :: d :: e :: f :: g :: h :: i :: j :: k :: m :: l)[q + 12]? = l[q]? := rfl
theorem set12 {α : Type} {a b c d e f g h i j k m x : α} {l : List α} {q : Nat} : (a :: b :: c :: d :: e :: f :: g :: h :: i :: j :: k :: m :: l).set (q + 12) x = a :: b :: c :: d :: e :: f :: g :: h :: i :: j :: k :: m :: l.set q x := rfl
theorem app_get {α : Type} {bs l : List α} {q : Nat} : (bs ++ l)[bs.length + q]? = l[q]? := by
 rw [vE (by omega)]; congr 1; omega
theorem app_get0 {α : Type} {bs l : List α} : (bs ++ l)[bs.length]? = l[0]? := app_get (q := 0)
theorem app_set {α : Type} {bs l : List α} {q : Nat} {x : α} : (bs ++ l).set (bs.length + q) x = bs ++ l.set q x := by
 rw [List.set_append_right _ _ (by omega)]; congr 2; omega
theorem app_set0 {α : Type} {bs l : List α} {x : α} : (bs ++ l).set bs.length x = bs ++ l.set 0 x := app_set (q := 0)
end Go.Fx.P.F
namespace Go.Fx.P.F
open Go Go.Fx Go.Proofs
def fromK (R : List Arc) (v : Int) (k : Nat) : List Int := ((yG k).filter fun i => decide ((gA R i).from_ = v)).map Int.ofNat
theorem fromK_yes {R : List Arc} {v : Int} {k : Nat} (h : (gA R k).from_ = v) : fromK R v (k + 1) = fromK R v k ++ [(k : Int)] := by
 simp [fromK, List.range_succ, uM, h]
theorem fromK_no {R : List Arc} {v : Int} {k : Nat} (h : (gA R k).from_ ≠ v) : fromK R v (k + 1) = fromK R v k := by
 simp [fromK, List.range_succ, uM, h]
structure Beg (R : List Arc) (N k : Nat) (cs : List V) (bs : List Blk) : Prop where
 len : cs.length = N
 cell : ∀ v : Nat, v < N → (cs[v]? = some V.nil ∧ fromK R v k = []) ∨ ∃ j, cs[v]? = some (.sl (j + 12) 0 (fromK R v k).length) ∧ bs[j]? = some (.arr 1 ((fromK R v k).map encI)) ∧ fromK R v k ≠ []
 inj : ∀ (v w j n n' : Nat), cs[v]? = some (.sl (j + 12) 0 n) → cs[w]? = some (.sl (j + 12) 0 n') → v = w
 sh : ∀ b ∈ bs, b = .dead ∨ ∃ els, b = .arr 1 els
theorem Beg.zero {R : List Arc} {N : Nat} : Beg R N 0 (yC N V.nil) [] := by
 refine ⟨by simp, fun v hv => .inl ⟨?_, rfl⟩, fun v w j n n' h => ?_, by simp⟩
 ·rw [vT, if_pos hv]
 ·rw [vT] at h
  split at h <;> simp at h
theorem Beg.new {R : List Arc} {N k : Nat} {cs : List V} {bs : List Blk} (h : Beg R N k cs bs) {v : Nat} (hv : v < N) (hf : (gA R k).from_ = v) (hc : cs[v]? = some V.nil) :
  Beg R N (k + 1) (cs.set v (.sl (bs.length + 2 + 12) 0 1)) (bs ++ [.dead, .dead, .arr 1 [encI k]]) := by
 have hk : fromK R v k = [] := by
  rcases h.cell v hv with ⟨_, h2⟩ | ⟨j, h2, _⟩
  ·exact h2
  ·rw [hc] at h2; simp at h2
 have hl : v < cs.length := by rw [h.len]; exact hv
 have hlt : ∀ w j n : Nat, cs[w]? = some (V.sl (j + 12) 0 n) → j < bs.length := by
  intro w j n hw
  have hwl : w < N := by
   rw [← h.len]
   exact (yN.1 hw).1
  rcases h.cell w hwl with ⟨h2, _⟩ | ⟨j', h2, h3, _⟩
  ·rw [hw] at h2; simp at h2
  ·rw [hw] at h2
   simp only [yJ, V.sl.injEq] at h2
   have : j = j' := by omega
   subst this
   exact (yN.1 h3).1
 refine ⟨by simp [h.len], ?_, ?_, ?_⟩
 ·intro w hw
  by_cases he : w = v
  ·subst he
   refine .inr ⟨bs.length + 2, ?_, ?_, ?_⟩
   ·rw [vG hl, fromK_yes hf, hk]; rfl
   ·rw [fromK_yes hf, hk, vE (by omega)]
    rw [show bs.length + 2 - bs.length = 2 by omega]; rfl
   ·rw [fromK_yes hf]; simp
  ·have hne : (gA R k).from_ ≠ w := by rw [hf]; omega
   rw [yW (by omega), fromK_no hne]
   refine (h.cell w hw).imp id ?_
   rintro ⟨j, h2, h3, h4⟩
   exact ⟨j, h2, by rw [yY (yN.1 h3).1]; exact h3, h4⟩
 ·intro a b j n n' ha hb
  by_cases e1 : a = v
  ·by_cases e2 : b = v
   ·omega
   ·rw [e1, vG hl] at ha
    rw [yW (by omega)] at hb
    simp only [yJ, V.sl.injEq] at ha
    have := hlt _ _ _ hb
    omega
  ·rw [yW (by omega)] at ha
   by_cases e2 : b = v
   ·rw [e2, vG hl] at hb
    simp only [yJ, V.sl.injEq] at hb
    have := hlt _ _ _ ha
    omega
   ·rw [yW (by omega)] at hb
    exact h.inj _ _ _ _ _ ha hb
 ·intro b hb
  rw [vJ] at hb
  rcases hb with hb | hb
  ·exact h.sh b hb
  ·simp only [yZ, List.not_mem_nil, or_false] at hb
   rcases hb with rfl | rfl | rfl
   ·exact .inl rfl
   ·exact .inl rfl
   ·exact .inr ⟨_, rfl⟩
theorem Beg.old {R : List Arc} {N k : Nat} {cs : List V} {bs : List Blk} (h : Beg R N k cs bs) {v j n : Nat} (hv : v < N) (hf : (gA R k).from_ = v) (hc : cs[v]? = some (.sl (j + 12) 0 n)) :
  Beg R N (k + 1) ((cs.map (kill [j + 12])).set v (.sl (j + 12) 0 (n + 1))) (bs.set j (.arr 1 ((fromK R v k).map encI ++ [encI k]))) := by
 have hl : v < (cs.map (kill [j + 12])).length := by rw [yM, h.len]; exact hv
 have hk : n = (fromK R v k).length ∧ j < bs.length := by
  rcases h.cell v hv with ⟨h2, _⟩ | ⟨j', h2, h3, _⟩
  ·rw [hc] at h2; simp at h2
  ·rw [hc] at h2
   simp only [yJ, V.sl.injEq] at h2
   have : j = j' := by omega
   subst this
   exact ⟨by omega, (yN.1 h3).1⟩
 have hoth : ∀ w, w ≠ v → ∀ j' n', (cs.map (kill [j + 12]))[w]? = some (.sl (j' + 12) 0 n') → cs[w]? = some (.sl (j' + 12) 0 n') ∧ j' ≠ j := by
  intro w hw j' n' h1
  rw [vW, Option.map_eq_some_iff] at h1
  obtain ⟨x, h2, h3⟩ := h1
  have hwl : w < N := by
   rw [← h.len]
   exact (yN.1 h2).1
  rcases h.cell w hwl with ⟨h4, _⟩ | ⟨j2, h4, h5, _⟩
  ·rw [h4] at h2
   simp only [yJ] at h2
   subst h2
   simp [kill] at h3
  ·rw [h4] at h2
   simp only [yJ] at h2
   subst h2
   simp only [kill, yT] at h3
   split at h3
   ·simp at h3
   ·rename_i hne
    simp only [V.sl.injEq] at h3
    have e : j2 = j' := by omega
    subst e
    refine ⟨by rw [h4, h3.2.2], fun he => hne (by rw [he])⟩
 refine ⟨by simp [h.len], ?_, ?_, ?_⟩
 ·intro w hw
  by_cases he : w = v
  ·subst he
   refine .inr ⟨j, ?_, ?_, ?_⟩
   ·rw [vG hl, fromK_yes hf, yP, ← hk.1]; rfl
   ·rw [fromK_yes hf, vG hk.2, vH]; rfl
   ·rw [fromK_yes hf]; simp
  ·have hne : (gA R k).from_ ≠ w := by rw [hf]; omega
   rw [yW (by omega), fromK_no hne, vW]
   rcases h.cell w hw with ⟨h4, h5⟩ | ⟨j2, h4, h5, h6⟩
   ·rw [h4]
    exact .inl ⟨by simp [kill], h5⟩
   ·have hj : j2 ≠ j := fun e => he (h.inj w v j2 _ _ h4 (by rw [e]; exact hc))
    refine .inr ⟨j2, ?_, ?_, h6⟩
    ·rw [h4]
     have : ¬ (j2 + 12 = j + 12) := by omega
     simp [kill, this, hj]
    ·rw [yW (fun e => hj e.symm)]; exact h5
 ·intro a b j' n1 n2 ha hb
  by_cases e1 : a = v
  ·by_cases e2 : b = v
   ·omega
   ·rw [e1, vG hl] at ha
    rw [yW (by omega)] at hb
    simp only [yJ, V.sl.injEq] at ha
    have := hoth _ e2 _ _ hb
    omega
  ·rw [yW (by omega)] at ha
   by_cases e2 : b = v
   ·rw [e2, vG hl] at hb
    simp only [yJ, V.sl.injEq] at hb
    have := hoth _ e1 _ _ ha
    omega
   ·rw [yW (by omega)] at hb
    exact h.inj _ _ _ _ _ (hoth _ e1 _ _ ha).1 (hoth _ e2 _ _ hb).1
 ·intro b hb
  rcases List.mem_or_eq_of_mem_set hb with hb | hb
  ·exact h.sh b hb
  ·exact .inr ⟨_, hb⟩
theorem Beg.kill {R : List Arc} {N k : Nat} {cs : List V} {bs : List Blk} (h : Beg R N k cs bs) (M : List Nat) : bs.map (killB M) = bs := by
 refine (vZ fun b hb => ?_).trans (List.map_id _)
 rcases h.sh b hb with rfl | ⟨els, rfl⟩ <;> rfl
theorem Beg.wf {R : List Arc} {N k : Nat} {cs : List V} {bs : List Blk} (h : Beg R N k cs bs) {q : List Blk} : wfB q bs := by
 have hs := h.sh
 clear h
 induction bs with
 | nil => trivial
 | cons b r ih =>
  rcases hs b vC with rfl | ⟨els, rfl⟩ <;> exact ih fun b hb => hs b (vD _ hb)
theorem wfL_all {h : List Blk} : ∀ {cs : List V}, (∀ x ∈ cs, wfV h x) → wfL h cs
 | [], _ => trivial
 | x :: r, hx => ⟨hx x vC, wfL_all fun y hy => hx y (vD _ hy)⟩
theorem flat1 : ∀ cs : List V, (cs.map fun x => [x]).flatten = cs
 | [] => rfl
 | x :: r => by rw [vL, List.flatten_cons, flat1 r]; rfl
theorem Beg.wfc {R : List Arc} {N k : Nat} {cs : List V} {bs : List Blk} (h : Beg R N k cs bs) {a b c d e f g i j l m o : Blk} : wfL (a :: b :: c :: d :: e :: f :: g :: i :: j :: l :: m :: o :: bs) (cs.map fun x => [x]).flatten := by
 rw [flat1]
 refine wfL_all fun x hx => ?_
 obtain ⟨v, hv, rfl⟩ := yQ hx
 rcases h.cell v (by rw [← h.len]; exact hv) with ⟨h1, _⟩ | ⟨q, h1, h2, _⟩
 ·rw [yB hv] at h1
  simp only [yJ] at h1
  rw [h1]; trivial
 ·rw [yB hv] at h1
  simp only [yJ] at h1
  rw [h1]
  simp only [wfV, liveP, get12, h2]
theorem leH_app {bs l p : List Blk} (hs : ∀ b ∈ bs, b = .dead ∨ ∃ els, b = .arr 1 els) (hl : leH l p) : leH (bs ++ l) (bs ++ p) := by
 induction bs with
 | nil => exact hl
 | cons b r ih =>
  refine ⟨?_, ih fun b hb => hs b (vD _ hb)⟩
  rcases hs b vC with rfl | ⟨els, rfl⟩
  ·trivial
  ·rfl
end Go.Fx.P.F
namespace Go.Fx.P.F
open Go Go.Fx Go.Proofs
def ent1 (b : List Int) (e : Int × Nat) : Value × V × Nat := (.int .i64 e.1, V.i (b.getD e.1.toNat 0), e.2)
def ents (b ord : List Int) : List (Value × V × Nat) := ord.zipIdx.map (ent1 b)
theorem sameNow_i {a c : Int} : Instr.sameNow (.int .i64) (.int .i64 a) (.int .i64 c) = some (decide (a = c)) := by
 unfold Instr.sameNow
 simp
 rfl
theorem mfind_not (b : List Int) {x : Int} : ∀ (ord : List Int) (n m : Nat), x ∉ ord → mfind (.int .i64) (.int .i64 x) ((ord.zipIdx n).map (ent1 b)) m = some none
 | [], _, _, _ => rfl
 | y :: r, n, m, h => by
  rw [yZ, not_or] at h
  simp only [uN, vL, ent1, mfind, sameNow_i, decide_eq_false h.1]
  exact mfind_not b r (n + 1) (m + 1) h.2
theorem mfind_yes (b : List Int) {x : Int} : ∀ (ord : List Int) (n m : Nat), x ∈ ord → ∃ j, mfind (.int .i64) (.int .i64 x) ((ord.zipIdx n).map (ent1 b)) m = some (some (j, V.i (b.getD x.toNat 0)))
 | [], _, _, h => by simp at h
 | y :: r, n, m, h => by
  simp only [uN, vL, ent1, mfind, sameNow_i]
  by_cases he : x = y
  ·subst he
   exact ⟨m, by simp [ent1]⟩
  ·rw [yZ] at h
   simp only [decide_eq_false he]
   exact mfind_yes b r (n + 1) (m + 1) (h.resolve_left he)
theorem find_not {b ord : List Int} {x : Int} (h : x ∉ ord) : mfind (.int .i64) (.int .i64 x) (ents b ord) 0 = some none := mfind_not b ord 0 0 h
theorem find_yes {b ord : List Int} {x : Int} (h : x ∈ ord) : ∃ j, mfind (.int .i64) (.int .i64 x) (ents b ord) 0 = some (some (j, V.i (b.getD x.toNat 0))) := mfind_yes b ord 0 0 h
theorem ents_add {b ord : List Int} {x y : Int} (hx : 0 ≤ x ∧ x.toNat < b.length) (hn : x ∉ ord) (hr : ∀ v ∈ ord, 0 ≤ v) : ents (b.set x.toNat y) (ord ++ [x]) = ents b ord ++ [(.int .i64 x, V.i y, ord.length)] := by
 unfold ents
 rw [List.zipIdx_append, vH]
 congr 1
 ·refine vZ fun e he => ?_
  have hm : e.1 ∈ ord := by
   have h := List.mem_zipIdx he
   rw [h.2.2]; exact yD _
  have h0 := hr _ hm
  have : ¬ e.1.toNat = x.toNat := fun h => hn (by rwa [show x = e.1 by omega])
  unfold ent1
  rw [getD_set hx.2, if_neg this]
 ·simp only [uN, List.zipIdx_nil, vL, List.map_nil, ent1, getD_set hx.2, if_true, Nat.zero_add]
theorem scanTo_skip {R : List Arc} {k : Int} {s : List Int × List Int} {i : Nat} : ∀ i', i ≤ i' → (∀ j, i ≤ j → j < i' → (gA R j).from_ ≠ k) → scanTo R k s i' = scanTo R k s i
 | 0, h, _ => by rw [show i = 0 by omega]
 | i' + 1, h, hn => by
  by_cases he : i = i' + 1
  ·rw [he]
  ·rw [← scanTo_skip i' (by omega) fun j h1 h2 => hn j h1 (by omega)]
   conv => lhs; unfold scanTo
   rw [if_neg]
   exact fun hc => hn i' (by omega) (by omega) hc.1
theorem fromK_pre {R : List Arc} {k : Int} {i : Nat} : ∀ n, i ≤ n → ∃ l, fromK R k n = fromK R k i ++ l
 | 0, h => by rw [show i = 0 by omega]; exact ⟨[], by simp⟩
 | n + 1, h => by
  by_cases he : i = n + 1
  ·rw [he]; exact ⟨[], by simp⟩
  ·obtain ⟨l, hl⟩ := fromK_pre (R := R) (k := k) n (show i ≤ n by omega)
   by_cases hk : (gA R n).from_ = k
   ·exact ⟨l ++ [(n : Int)], by rw [fromK_yes hk, hl, uO]⟩
   ·exact ⟨l, by rw [fromK_no hk, hl]⟩
theorem fromK_next {R : List Arc} {k : Int} {n : Nat} : ∀ (d i : Nat), n - i = d → i ≤ n → (fromK R k i).length < (fromK R k n).length →
  ∃ i', i ≤ i' ∧ i' < n ∧ (gA R i').from_ = k ∧ (∀ j, i ≤ j → j < i' → (gA R j).from_ ≠ k) ∧ fromK R k i' = fromK R k i ∧ (fromK R k n)[(fromK R k i).length]? = some (i' : Int)
 | 0, i, hd, hi, hl => by
  have : i = n := by omega
  rw [this] at hl; omega
 | d + 1, i, hd, hi, hl => by
  by_cases hk : (gA R i).from_ = k
  ·refine ⟨i, yE _, by omega, hk, fun j h1 h2 => by omega, rfl, ?_⟩
   obtain ⟨l, hl2⟩ := fromK_pre (R := R) (k := k) n (show i + 1 ≤ n by omega)
   rw [hl2, fromK_yes hk, uO, vE (yE _)]
   simp
  ·obtain ⟨i', h1, h2, h3, h4, h5, h6⟩ := fromK_next (n := n) (R := R) (k := k) d (i + 1) (by omega) (by omega) (by rw [fromK_no hk]; exact hl)
   rw [fromK_no hk] at h5 h6
   refine ⟨i', by omega, h2, h3, fun j h7 h8 => ?_, h5, h6⟩
   by_cases he : j = i
   ·rw [he]; exact hk
   ·exact h4 j (by omega) h8
theorem fromK_end {R : List Arc} {k : Int} {i n : Nat} (hi : i ≤ n) (h : (fromK R k n).length ≤ (fromK R k i).length) : ∀ j, i ≤ j → j < n → (gA R j).from_ ≠ k := by
 intro j h1 h2 h3
 obtain ⟨l1, e1⟩ := fromK_pre (R := R) (k := k) j h1
 obtain ⟨l2, e2⟩ := fromK_pre (R := R) (k := k) n (show j + 1 ≤ n by omega)
 rw [fromK_yes h3] at e2
 have := congrArg vM e2
 have := congrArg vM e1
 simp at *
 omega
def begV (R : List Arc) (v : Nat) : V := if fromK R v R.length = [] then .nil else .ro 1 ((fromK R v R.length).map encI)
def begC (R : List Arc) (N : Nat) : List (List V) := (yG N).map fun v => [begV R v]
theorem begC_len {R : List Arc} {N : Nat} : (begC R N).length = N := by simp [begC]
theorem begC_get {R : List Arc} {N v : Nat} (h : v < (begC R N).length) : (begC R N)[v] = [begV R v] := by simp [begC]
theorem begC_congr {R R' : List Arc} {N : Nat} (hl : R.length = R'.length) (h : ∀ i, i < R.length → (gA R i).from_ = (gA R' i).from_) : begC R N = begC R' N := by
 have : ∀ v : Int, fromK R v R.length = fromK R' v R'.length := by
  intro v
  rw [← hl]
  unfold fromK
  congr 1
  refine List.filter_congr fun i hi => ?_
  rw [yX] at hi
  rw [h i hi]
 unfold begC begV
 simp only [this]
theorem Beg.given {R : List Arc} {N : Nat} {cs : List V} {bs : List Blk} (h : Beg R N R.length cs bs) {a b c d e f g i j l m o : Blk} : ((cs.map fun x => [x]).map (gvL (fun k => decide (12 ≤ k)) (a :: b :: c :: d :: e :: f :: g :: i :: j :: l :: m :: o :: bs))) = begC R N := by
 apply yK
 ·simp [begC, h.len]
 ·intro v h1 h2
  have hv : v < N := by simpa [begC] using h2
  have hl : v < cs.length := by rw [h.len]; exact hv
  simp only [vS, begC_get, gvL]
  rcases h.cell v hv with ⟨h3, h4⟩ | ⟨q, h3, h4, h5⟩
  ·rw [yB hl] at h3
   simp only [yJ] at h3
   rw [h3]
   simp [begV, h4, gvV]
  ·rw [yB hl] at h3
   simp only [yJ] at h3
   rw [h3]
   have hb : blk (a :: b :: c :: d :: e :: f :: g :: i :: j :: l :: m :: o :: bs) (q + 12) = .arr 1 ((fromK R v R.length).map encI) := by
    unfold blk
    rw [yA, get12, h4]; rfl
   simp only [gvV, hb, begV, if_neg h5]
   simp
   exact vI (by simp)
theorem begC_wf {R : List Arc} {N : Nat} {h : List Blk} : wfL h (begC R N).flatten := by
 refine wfL_all fun x hx => ?_
 rw [uA] at hx
 obtain ⟨l, h1, h2⟩ := hx
 unfold begC at h1
 rw [yV] at h1
 obtain ⟨v, _, rfl⟩ := h1
 rw [yT] at h2
 subst h2
 unfold begV
 split <;> trivial
theorem ents_wf {h : List Blk} {b ord : List Int} : wfL h ((ents b ord).map fun x => x.2.1) := by
 refine wfL_all fun x hx => ?_
 rw [yV] at hx
 obtain ⟨e, h1, rfl⟩ := hx
 unfold ents at h1
 rw [yV] at h1
 obtain ⟨e', _, rfl⟩ := h1
 trivial
theorem ents_kill {b ord : List Int} {M : List Nat} : (ents b ord).map (fun e => (e.1, kill M e.2.1, e.2.2)) = ents b ord := by
 unfold ents
 rw [vN]
 rfl
theorem ents_ren {b ord : List Int} {g : Nat → Option Nat} : (ents b ord).map (fun e => (e.1, ren g e.2.1, e.2.2)) = ents b ord := by
 unfold ents
 rw [vN]
 rfl
theorem begC_kill {R : List Arc} {N : Nat} {M : List Nat} : (begC R N).map (kills M) = begC R N := by
 unfold begC
 rw [vN]
 refine vZ fun v _ => ?_
 simp only [Function.comp, kills, begV]
 split <;> rfl
end Go.Fx.P.F
namespace Go.Fx.P.F
open Go Go.Fx Go.Proofs
set_option maxRecDepth 20000
def k12 (N m : Nat) (arcs R : List Arc) (f t : Int) (begin_ : List (List V)) (bs : List Blk) : List Blk :=
 .var [.i N, .ro 4 (arcs.map Arc.enc)] :: .var [.i f] :: .var [.i t] :: .dead :: .var [.i N, .sl 10 0 (2 * (m + 1))] :: .dead :: .dead :: .dead :: .dead :: .dead :: .arr 4 (R.map Arc.enc) :: .arv 1 begin_ :: bs
def pat1 (N m : Nat) (arcs R : List Arc) (f t : Int) (g : Nat × List V × List Blk) : St :=
 ⟨[(40, .i g.1), (39, .i (2 * (m + 1) : Nat)), (38, .sl 10 0 (2 * (m + 1))), (9, .sl 11 0 N), (8, .ptr 4 0 0), (5, .ptr 2 0 0), (4, .ptr 1 0 0), (3, .ptr 0 0 0)], k12 N m arcs R f t (g.2.1.map fun x => [x]) g.2.2, 0⟩
theorem body36a (N m : Nat) (arcs R : List Arc) (f t : Int) (hm : m < 2048) (hR : R.length = 2 * (m + 1)) (hF : ∀ i, i < R.length → 0 ≤ (gA R i).from_ ∧ (gA R i).from_ < N) {RR : St → Prop} {X : Nat → St → Prop}
  (hX : ∀ cs bs b y, Beg R N (2 * (m + 1)) cs bs → X 0 ⟨(41, y) :: (pat1 N m arcs R f t (2 * (m + 1), cs, bs)).e, (pat1 N m arcs R f t (2 * (m + 1), cs, bs)).h, b⟩)
  (g : Nat × List V × List Blk) (hI : g.1 ≤ 2 * (m + 1) ∧ Beg R N g.1 g.2.1 g.2.2) :
  aw cx0 c59l0 (fun s' => ∃ g' : Nat × List V × List Blk, ((g'.1 ≤ 2 * (m + 1) ∧ Beg R N g'.1 g'.2.1 g'.2.2) ∧ 2 * (m + 1) - g'.1 < 2 * (m + 1) - g.1) ∧ leS cx0.fx s' (pat1 N m arcs R f t g')) X RR (pat1 N m arcs R f t g) := by
 obtain ⟨k, cs, bs⟩ := g
 simp only at hI
 obtain ⟨hk, hB⟩ := hI
 unfold c59l0 pat1 k12
 simp -implicitDefEqProofs only [rX,↓rY,rZ,rdK,ofConst,cells?,splice,↓reduceIte,Nat.reduceEqDiff,arrSz,Nat.reduceAdd,reduceCtorEq,freshP,litsP,isD,Nat.reduceLT,cxN,get12,set12,app_get,app_get0,app_set,app_set0,uO]
 simp only [br, decide_eq_true_eq, decide_eq_false_iff_not]
 refine ⟨fun h => ?_, fun h => ?_⟩
 ·have hk1 : k < R.length := by omega
  have hgk : gA R k = R[k] := getD_nil (a := ⟨0,0,0,0⟩) hk1
  have hf := hF k hk1
  rw [hgk] at hf
  have hv : R[k].from_ = ((R[k].from_.toNat : Nat) : Int) := by omega
  have hcl : R[k].from_.toNat < cs.length := by rw [hB.len]; omega
  refine ⟨⟨by omega, h⟩, by omega, hf, by omega, ?_⟩
  rcases hB.cell R[k].from_.toNat (by omega) with ⟨h1, h2⟩ | ⟨j, h1, h2, h3⟩
  ·have hcv : cs[R[k].from_.toNat] = V.nil := by rw [yB hcl] at h1; simpa using h1
   simp -implicitDefEqProofs only [rX,↓rY,hcv,ofConst,cells?,splice,↓reduceIte,Nat.reduceEqDiff,arrSz,Nat.reduceAdd,freshP,leE,leH,leB,leV,leVs,keepP,liveP,wfE,wfB,wfV,wfL,isC,get12,set12,app_get,app_set]
   refine ⟨by omega, by omega, by omega, by simp only [lo, hi]; omega, (k + 1, cs.set R[k].from_.toNat (.sl (bs.length + 2 + 12) 0 1), bs ++ [.dead, .dead, .arr 1 [encI k]]), ⟨⟨by omega, hB.new (by omega) (by rw [hgk]; exact hv) h1⟩, by omega⟩, by simp, ⟨by rw [vA], leH_app hB.sh ?_⟩, (hB.new (by omega) (by rw [hgk]; exact hv) h1).wfc, (hB.new (by omega) (by rw [hgk]; exact hv) h1).wf⟩
   exact ⟨trivial, trivial, rfl, trivial⟩
  ·have hcv : cs[R[k].from_.toNat] = V.sl (j + 12) 0 (fromK R (R[k].from_.toNat : Nat) k).length := by rw [yB hcl] at h1; simpa using h1
   have hj : j < bs.length := (yN.1 h2).1
   have g1 : ∀ l, (bs ++ l)[j]? = some (.arr 1 ((fromK R (R[k].from_.toNat : Nat) k).map encI)) := fun l => by rw [yY hj]; exact h2
   have g2 : ∀ l x, (bs ++ l).set j x = bs.set j x ++ l := fun l x => by rw [List.set_append_left _ _ hj]
   have g3 : bs.map (killB [j + 12]) = bs := hB.kill _
   simp -implicitDefEqProofs only [rX,↓rY,hcv,ofConst,cells?,splice,↓reduceIte,Nat.reduceEqDiff,arrSz,Nat.reduceAdd,reduceCtorEq,leE,leH,leB,leV,leVs,keepP,liveP,wfE,wfB,wfV,wfL,killE,killB,kill,kills,St.kill,isC,get12,set12,g1,g2,g3,vH]
   have hle : (fromK R (R[k].from_.toNat : Nat) k).length ≤ k := by
    have := uX (fun i => decide ((gA R i).from_ = ((R[k].from_.toNat : Nat) : Int))) (yG k)
    rw [yU] at this
    rwa [fromK, yM]
   have hO := hB.old (by omega) (by rw [hgk]; exact hv) h1
   have e1 : vB (kills [j + 12]) (vB (fun x => [x]) cs) = vB (fun x => [x]) (cs.map (kill [j + 12])) := by
    simp only [vN]; rfl
   have e2 : yS (fromK R (R[k].from_.toNat : Nat) k).length (vB encI (fromK R (R[k].from_.toNat : Nat) k)) = vB encI (fromK R (R[k].from_.toNat : Nat) k) := vI (by simp)
   rw [e1, e2]
   refine ⟨by omega, by omega, by omega, by omega, by simp only [lo, hi]; omega, (k + 1, _, _), ⟨⟨by omega, hO⟩, by omega⟩, by simp, ⟨by rw [vA], ?_⟩, hO.wfc, hO.wf⟩
   have := leH_app hO.sh (l := [Blk.var (kills [j + 12] R[k].enc), Blk.arr 1 [[V.v (Value.int IntKind.i64 ↑k)]], Blk.dead]) (p := []) (by unfold leH; trivial)
   rwa [uB] at this
 ·have hk2 : k = 2 * (m + 1) := by omega
  subst hk2
  exact hX cs bs _ _ hB
end Go.Fx.P.F
namespace Go.Fx.P.F
open Go Go.Fx Go.Proofs
set_option maxRecDepth 20000
def sH (N m : Nat) (arcs R : List Arc) (f t : Int) (s : List Int × List Int) (w : List Int) : List Blk :=
 k12 N m arcs R f t (begC R N) [.map (ents s.1 s.2) s.2.length, .var [.mp 12], .arr 1 (w.map encI)]
def sE (N j n : Nat) : Env := [(13, .sl 14 j n), (12, .ptr 13 0 0), (9, .sl 11 0 N), (8, .ptr 4 0 0), (5, .ptr 2 0 0), (4, .ptr 1 0 0), (3, .ptr 0 0 0)]
structure InI (R : List Arc) (k : Int) (s0 : List Int × List Int) (h : Nat) (p i j n : Nat) (w : List Int) : Prop where
 hi : i ≤ R.length
 hp : (fromK R k i).length = p
 hn : j + n = w.length
 hw : w.drop j = (scanTo R k s0 i).2.drop (h + 1)
def pat3 (N m : Nat) (arcs R : List Arc) (f t k : Int) (s0 : List Int × List Int) (g : Nat × Nat × Nat × Nat × List Int) : St :=
 ⟨(76, .i g.1) :: (75, .i (fromK R k R.length).length) :: (74, .ro 1 ((fromK R k R.length).map encI)) :: sE N g.2.2.1 g.2.2.2.1, sH N m arcs R f t (scanTo R k s0 g.2.1) g.2.2.2.2, 0⟩
theorem body36d (N m : Nat) (arcs R : List Arc) (f t k : Int) (s0 : List Int × List Int) (h : Nat) (hN : N ≤ 256) (hm : m < 2048) (hR : R.length = 2 * (m + 1)) (hf : 0 ≤ f ∧ f < N)
  (hT : ∀ i, i < R.length → 0 ≤ (gA R i).to ∧ (gA R i).to < N) (hS : Srch R N f s0) (hk : k ∈ s0.2) (hh : h + 1 ≤ s0.2.length) {RR : St → Prop} {X : Nat → St → Prop}
  (hX : ∀ (j n : Nat) (w : List Int) b y z, j + n = w.length → w.drop j = (scanTo R k s0 R.length).2.drop (h + 1) → X 6 ⟨(77, y) :: (76, z) :: (75, .i (fromK R k R.length).length) :: (74, .ro 1 ((fromK R k R.length).map encI)) :: sE N j n, sH N m arcs R f t (scanTo R k s0 R.length) w, b⟩)
  (g : Nat × Nat × Nat × Nat × List Int) (hI : InI R k s0 h g.1 g.2.1 g.2.2.1 g.2.2.2.1 g.2.2.2.2) :
  aw cx0 c59l3 (fun s' => ∃ g' : Nat × Nat × Nat × Nat × List Int, (InI R k s0 h g'.1 g'.2.1 g'.2.2.1 g'.2.2.2.1 g'.2.2.2.2 ∧ (fromK R k R.length).length - g'.1 < (fromK R k R.length).length - g.1) ∧ leS cx0.fx s' (pat3 N m arcs R f t k s0 g')) X RR (pat3 N m arcs R f t k s0 g) := by
 obtain ⟨p, i, j, n, w⟩ := g
 obtain ⟨h1, h2, h3, h4⟩ := hI
 simp only at h1 h2 h3 h4
 have hLl : (fromK R k R.length).length ≤ R.length := by
  have := uX (fun i => decide ((gA R i).from_ = k)) (yG R.length)
  rw [yU] at this
  rwa [fromK, yM]
 obtain ⟨hS1, hS2, hS3⟩ := Srch.scan hf hT hS hk i h1
 have hord := nodup_le N hS1.nod hS1.rng
 unfold c59l3 pat3 sE sH k12
 simp -implicitDefEqProofs only [rX,↓rY,rZ,rdK,ofConst,cells?,splice,↓reduceIte,Nat.reduceEqDiff,arrSz,Nat.reduceAdd,reduceCtorEq,freshP,litsP,leE,leH,leB,leV,leVs,keepP,liveP,wfE,wfB,wfV,wfL,killE,killB,kill,kills,St.kill,isD,Nat.reduceLT,cxN]
 simp only [br, decide_eq_true_eq, decide_eq_false_iff_not]
 refine ⟨fun hc => ?_, fun hc => ?_⟩
 ·obtain ⟨i', q1, q2, q3, q4, q5, q6⟩ := fromK_next (R := R) (k := k) (n := R.length) (R.length - i) i rfl h1 (by omega)
  have hsk : scanTo R k s0 i' = scanTo R k s0 i := scanTo_skip i' q1 q4
  have hpl : p < (fromK R k R.length).length := by omega
  have hget : (fromK R k R.length)[p] = (i' : Int) := by
   rw [h2, yB hpl] at q6; simpa using q6
  have hgi : gA R i' = R[i'] := getD_nil (a := ⟨0,0,0,0⟩) q2
  have hto := hT i' q2
  rw [hgi] at hto
  have hp1 : (fromK R k (i' + 1)).length = p + 1 := by rw [fromK_yes q3, q5, yP, h2]; rfl
  have hsc : scanTo R k s0 (i' + 1) = if 0 < R[i'].cap ∧ (scanTo R k s0 i).1.getD R[i'].to.toNat 0 = -2 then ((scanTo R k s0 i).1.set R[i'].to.toNat i', (scanTo R k s0 i).2 ++ [R[i'].to]) else scanTo R k s0 i := by
   conv => lhs; unfold scanTo
   rw [hgi] at q3 ⊢
   rw [hsk]
   simp only [q3, true_and]
  have hmem : (scanTo R k s0 i).1.getD R[i'].to.toNat 0 ≠ -2 ↔ R[i'].to ∈ (scanTo R k s0 i).2 := by
   have := hS1.mem R[i'].to.toNat (by omega)
   rwa [yH hto.1] at this
  refine ⟨⟨by omega, hc⟩, by omega, ?_⟩
  simp only [hget]
  generalize hs : scanTo R k s0 i = s at *
  have hnb : n ≤ N := by have := congrArg vM h4; simp at this; omega
  by_cases hin : R[i'].to ∈ s.2
  ·obtain ⟨q, hq⟩ := find_yes (b := s.1) hin
   have hsc2 : scanTo R k s0 (i' + 1) = s := by rw [hsc, if_neg]; exact fun hcc => hmem.2 hin hcc.2
   simp -implicitDefEqProofs only [rX,↓rY,hq,ents_kill,begC_kill,eq_true begC_wf,eq_true ents_wf]
   refine ⟨⟨by omega, by omega⟩, by omega, fun hc2 => hc2.elim, fun _ => ⟨by simp only [lo, hi]; omega, (p + 1, i' + 1, j, n, w), ⟨⟨uP q2, hp1, h3, by show w.drop j = (scanTo R k s0 (i' + 1)).2.drop (h + 1); rw [hsc2]; exact h4⟩, by omega⟩, ⟨by simp, rfl⟩, by simp only [hsc2]; exact ⟨trivial, trivial⟩⟩⟩
  ·have hq := find_not (b := s.1) hin
   simp -implicitDefEqProofs only [rX,↓rY,ofConst,reduceCtorEq,hq,ents_kill,begC_kill,eq_true begC_wf,eq_true ents_wf,forall_const]
   refine ⟨⟨by omega, by omega⟩, by omega, ⟨fun hcap => ⟨⟨by omega, by omega⟩, by simp only [lo, hi]; omega, ?_⟩, fun hcap => ⟨by simp only [lo, hi]; omega, (p + 1, i' + 1, j, n, w), ⟨⟨uP q2, hp1, h3, ?_⟩, by omega⟩, ⟨by simp, rfl⟩, ?_⟩⟩, fun hc2 => hc2.elim⟩
   ·have hsc2 : scanTo R k s0 (i' + 1) = (s.1.set R[i'].to.toNat i', s.2 ++ [R[i'].to]) := by rw [hsc, if_pos ⟨hcap, Decidable.not_not.1 fun hne => hin (hmem.1 hne)⟩]
    have hsl : R[i'].to.toNat < s.1.length := by rw [hS1.len]; omega
    have htk : yS n (vU j w) = vU (h + 1) s.2 := by rw [vI (by simp; omega), h4]
    refine ⟨(p + 1, i' + 1, 0, n + 1, vU (h + 1) s.2 ++ [R[i'].to]), ⟨⟨uP q2, hp1, ?_, ?_⟩, by omega⟩, ⟨by simp, rfl⟩, ?_, ?_⟩
    ·have := congrArg vM h4
     simp at this ⊢; omega
    ·rw [hsc2, List.drop_zero]
     simp only
     have hpre := hS3.length_le
     rw [List.drop_append_of_le_length (by omega)]
    ·simp only [hsc2, ents_add ⟨hto.1, hsl⟩ hin (fun v hv => (hS1.rng v hv).1), yP, List.length_cons, List.length_nil]
    ·rw [← List.map_drop, ← uQ, htk, vH]; rfl
   ·have hsc2 : scanTo R k s0 (i' + 1) = s := by rw [hsc, if_neg]; exact fun hcc => hcap hcc.1
    show w.drop j = (scanTo R k s0 (i' + 1)).2.drop (h + 1)
    rw [hsc2]; exact h4
   ·have hsc2 : scanTo R k s0 (i' + 1) = s := by rw [hsc, if_neg]; exact fun hcc => hcap hcc.1
    simp only [hsc2]
    exact ⟨trivial, trivial⟩
 ·have hpe : p = (fromK R k R.length).length := by
   obtain ⟨l, hl⟩ := fromK_pre (R := R) (k := k) R.length h1
   have := congrArg vM hl
   rw [yP] at this
   omega
  have hsk : scanTo R k s0 R.length = scanTo R k s0 i := scanTo_skip R.length h1 (fromK_end h1 (by omega))
  rw [← hsk] at h4 ⊢
  exact hX j n w _ _ _ h3 h4
end Go.Fx.P.F
namespace Go.Fx.P.F
open Go Go.Fx Go.Proofs
set_option maxRecDepth 20000
structure InO (R : List Arc) (N : Nat) (f : Int) (h j n : Nat) (w : List Int) : Prop where
 hn : j + n = w.length
 hw : w.drop j = (bfsTo R N f h).2.drop h
 hh : h ≤ (bfsTo R N f h).2.length
def pat4 (N m : Nat) (arcs R : List Arc) (f t : Int) (g : Nat × Nat × Nat × List Int) : St :=
 ⟨sE N g.2.1 g.2.2.1, sH N m arcs R f t (bfsTo R N f g.1) g.2.2.2, 0⟩
theorem body36c (N m : Nat) (arcs R : List Arc) (f t : Int) (hN : N ≤ 256) (hm : m < 2048) (hR : R.length = 2 * (m + 1)) (hf : 0 ≤ f ∧ f < N)
  (hT : ∀ i, i < R.length → 0 ≤ (gA R i).to ∧ (gA R i).to < N) {RR : St → Prop} {X : Nat → St → Prop}
  (hX : ∀ (j n : Nat) (w : List Int) b y63 y64 y65, X 4 ⟨(65, y65) :: (64, y64) :: (63, y63) :: sE N j n, sH N m arcs R f t (srch R N f) w, b⟩)
  (g : Nat × Nat × Nat × List Int) (hI : InO R N f g.1 g.2.1 g.2.2.1 g.2.2.2) :
  aw cx0 c59l2 (fun s' => ∃ g' : Nat × Nat × Nat × List Int, (InO R N f g'.1 g'.2.1 g'.2.2.1 g'.2.2.2 ∧ N - g'.1 < N - g.1) ∧ leS cx0.fx s' (pat4 N m arcs R f t g')) X RR (pat4 N m arcs R f t g) := by
 obtain ⟨h, j, n, w⟩ := g
 obtain ⟨h3, h4, h5⟩ := hI
 simp only at h3 h4 h5
 have hS := Srch.bfs hf hT h
 have hord := nodup_le N hS.nod hS.rng
 have hnl : n = (bfsTo R N f h).2.length - h := by have := congrArg vM h4; simp at this; omega
 unfold c59l2 pat4 sE sH k12
 simp -implicitDefEqProofs only [rX,↓rY,rZ,ofConst,↓reduceIte,Nat.reduceEqDiff,arrSz,Nat.reduceAdd,slcOk,cxN]
 intro hmx
 simp only [br, decide_eq_true_eq, decide_eq_false_iff_not]
 refine ⟨fun hc => ?_, fun hc => ?_⟩
 ·have hjl : j < w.length := by omega
  have hhl : h < (bfsTo R N f h).2.length := by omega
  have hk : w[j] = (bfsTo R N f h).2[h] := by
   have e1 : (w.drop j)[0]? = some w[j] := by rw [List.getElem?_drop, vV, yB hjl]
   have e2 : ((bfsTo R N f h).2.drop h)[0]? = some (bfsTo R N f h).2[h] := by rw [List.getElem?_drop, vV, yB hhl]
   rw [h4, e2] at e1
   simpa using e1.symm
  have hkm : (bfsTo R N f h).2[h] ∈ (bfsTo R N f h).2 := yD hhl
  have hkr := hS.rng _ hkm
  have hstep : bfsTo R N f (h + 1) = scanTo R w[j] (bfsTo R N f h) R.length := by
   conv => lhs; unfold bfsTo
   rw [yB hhl, hk]
  have hS2 := (Srch.scan hf hT hS hkm R.length (yE _)).2.2.length_le
  have hd1 : w.drop (j + 1) = (bfsTo R N f h).2.drop (h + 1) := by
   rw [← List.drop_drop, h4, List.drop_drop]
  have hi1 : yO 1 = 1 := rfl
  have hi0 : yO 0 = 0 := rfl
  refine ⟨⟨by omega, by omega⟩, by omega, ⟨⟨by omega, by omega⟩, by omega⟩, ?_⟩
  rw [← hk] at hkr hkm hS2
  refine ⟨by simp only [hi0, vV]; exact hkr, by simp only [hi0, vV, begC_len]; omega, ?_⟩
  simp only [hi0, hi1, vV, begC_get, uC]
  have hfk : ((w[j].toNat : Nat) : Int) = w[j] := by omega
  unfold begV
  split
  ·rename_i hnil
   rw [hfk] at hnil
   have hsk : scanTo R w[j] (bfsTo R N f h) R.length = bfsTo R N f h := scanTo_skip (i := 0) R.length (vO _) (fromK_end (vO _) (by rw [hnil]; simp))
   simp -implicitDefEqProofs only [↓rY]
   refine loopP_intro (fun _ : Unit => ⟨(76, .i 0) :: (75, .i 0) :: sE N (j + 1) (n - 1), sH N m arcs R f t (bfsTo R N f h) w, 0⟩) (fun _ => True) (fun _ => 0) () trivial ?_ ?_
   ·unfold sE sH k12
    simp -implicitDefEqProofs only [rX,↓reduceIte,Nat.reduceEqDiff,leE,leH,leB,leV,leVs,keepP,liveP,wfE,wfB,wfV,wfL,leVs,leV,eq_true begC_wf,eq_true ents_wf]
   ·rintro ⟨⟩ -
    have hdf : decide ((0 : Int) < 0) = false := rfl
    unfold c59l3 sE sH k12
    simp -implicitDefEqProofs only [rX,↓rY,↓reduceIte,Nat.reduceEqDiff,Nat.reduceAdd,leE,leH,leB,leV,leVs,keepP,liveP,wfE,wfB,wfV,wfL,Nat.reduceLT,leVs,leV,hdf]
    refine ⟨(h + 1, j + 1, n - 1, w), ⟨⟨by show j + 1 + (n - 1) = w.length; omega, ?_, ?_⟩, by show N - (h + 1) < N - h; omega⟩, rfl, ?_, ?_⟩
    ·show w.drop (j + 1) = (bfsTo R N f (h + 1)).2.drop (h + 1)
     rw [hstep, hsk, hd1]
    ·show h + 1 ≤ (bfsTo R N f (h + 1)).2.length
     rw [hstep, hsk]; omega
    ·rw [hstep, hsk]; exact ⟨rfl, rfl⟩
    ·simp only [eq_true begC_wf, eq_true ents_wf, and_self]
  ·rename_i hnn
   rw [hfk] at hnn ⊢
   simp -implicitDefEqProofs only [rX,↓rY]
   intro hmx2
   refine loopP_intro (pat3 N m arcs R f t w[j] (bfsTo R N f h)) (fun g => InI R w[j] (bfsTo R N f h) h g.1 g.2.1 g.2.2.1 g.2.2.2.1 g.2.2.2.2) (fun g => (fromK R w[j] R.length).length - g.1) (0, 0, j + 1, n - 1, w) ⟨vO _, rfl, ?_, hd1⟩ ?_ (body36d N m arcs R f t w[j] (bfsTo R N f h) h hN hm hR hf hT hS hkm (by omega) ?_)
   ·show j + 1 + (n - 1) = w.length; omega
   ·unfold pat3 sE sH k12
    simp -implicitDefEqProofs only [rX,↓reduceIte,Nat.reduceEqDiff,leE,leH,leB,leV,leVs,keepP,liveP,wfE,wfB,wfV,wfL,leVs,leV,eq_true begC_wf,eq_true ents_wf,yI,scanTo]
   ·intro j' n' w' b y z e1 e2
    simp only [↓reduceIte]
    refine ⟨(h + 1, j', n', w'), ⟨⟨e1, ?_, ?_⟩, by show N - (h + 1) < N - h; omega⟩, ?_⟩
    ·show w'.drop j' = (bfsTo R N f (h + 1)).2.drop (h + 1)
     rw [hstep]; exact e2
    ·show h + 1 ≤ (bfsTo R N f (h + 1)).2.length
     rw [hstep]; omega
    ·unfold sE sH k12
     simp -implicitDefEqProofs only [rX,↓reduceIte,Nat.reduceEqDiff,leE,leH,leB,leV,leVs,keepP,liveP,wfE,wfB,wfV,wfL,leVs,leV,eq_true begC_wf,eq_true ents_wf,hstep]
 ·have hle : (bfsTo R N f h).2.length ≤ h := by omega
  rw [srch_of hf hT hle]
  exact hX j n w _ _ _ _
end Go.Fx.P.F
namespace Go.Fx.P.F
open Go Go.Fx Go.Proofs
set_option maxRecDepth 20000
theorem bi_xr {k : IntKind} {a c : Int} {K : V → Prop} {x : Bool} : binInt .xor x k a c K = K (.v (.int k (k.wrap ((vP k.bits a ^^^ vP k.bits c).toNat : Int)))) := rfl
theorem xor1 {i : Nat} (h : i < 1000000) : IntKind.wrap .i64 (((vP (IntKind.bits .i64) (i : Int) ^^^ vP (IntKind.bits .i64) 1).toNat : Nat) : Int) = ((if i % 2 = 0 then i + 1 else i - 1 : Nat) : Int) := by
 have h1 : (vP (IntKind.bits .i64) (i : Int) ^^^ vP (IntKind.bits .i64) 1).toNat = i ^^^ 1 := by
  rw [BitVec.toNat_xor]
  congr 1
  rw [BitVec.toNat_ofInt]
  show (((i : Int) % ((2 ^ 64 : Nat) : Int)).toNat) = i
  omega
 have h2 : i ^^^ 1 = if i % 2 = 0 then i + 1 else i - 1 := by
  have hd : (i ^^^ 1) / 2 = i / 2 := by
   rw [Nat.xor_div_two]; simp
  have hm := @Nat.xor_mod_two_eq_one i 1
  split <;> omega
 rw [h1, h2]
 exact wrap_in .i64 _ (by simp only [lo, hi]; split <;> omega)
theorem restA_push (arcs : List Arc) (fl : List Int) (k i : Nat) (c : Int) (hi : i < 2 * k) (hk : k = arcs.length) (hl : fl.length = arcs.length) (R : List Arc) (hR : R = restA arcs fl k) (h1 : i < R.length) (j : Nat) (hj : j = if i % 2 = 0 then i + 1 else i - 1) (h2 : j < R.length) :
  (R.set i ⟨R[i].from_, R[i].to, R[i].cap - c, R[i].cost⟩).set j ⟨R[j].from_, R[j].to, R[j].cap + c, R[j].cost⟩ = restA arcs (push1 c fl i) k := by
 subst hR
 have g : ∀ (fl' : List Int) (q : Nat) (hq : q < (restA arcs fl' k).length), (restA arcs fl' k)[q] = if q % 2 = 0 then ⟨(gA arcs (q / 2)).from_, (gA arcs (q / 2)).to, (gA arcs (q / 2)).cap - fl'.getD (q / 2) 0, (gA arcs (q / 2)).cost⟩ else ⟨(gA arcs (q / 2)).to, (gA arcs (q / 2)).from_, fl'.getD (q / 2) 0, IntKind.wrap .i64 (-(gA arcs (q / 2)).cost)⟩ := by
  intro fl' q hq
  rw [restA_len] at hq
  rw [← getD_nil (a := ⟨0,0,0,0⟩) (by rw [restA_len]; exact hq)]
  split
  ·rename_i he
   conv => lhs; rw [show q = 2 * (q / 2) by omega]
   rw [restA_even arcs fl' k _ (by omega)]
  ·rename_i he
   conv => lhs; rw [show q = 2 * (q / 2) + 1 by omega]
   rw [restA_odd arcs fl' k _ (by omega)]
 have hp : ∀ q, (push1 c fl i).getD q 0 = if q = i / 2 then (if i % 2 = 0 then fl.getD (i / 2) 0 + c else fl.getD (i / 2) 0 - c) else fl.getD q 0 := by
  intro q
  unfold push1
  split
  ·rw [getD_set (by omega)]
  ·rw [getD_set (by omega)]
 rw [restA_len] at h1 h2
 apply yK
 ·simp [restA_len]
 ·intro q q1 q2
  rw [restA_len] at q2
  simp only [vF, g, hp]
  by_cases e1 : j = q
  ·subst e1
   rw [if_pos rfl]
   by_cases e2 : i % 2 = 0
   ·have e3 : j = i + 1 := by rw [hj, if_pos e2]
    have e4 : j / 2 = i / 2 := by omega
    have e5 : ¬ j % 2 = 0 := by omega
    simp [e2, e4, e5]
   ·have e3 : j = i - 1 := by rw [hj, if_neg e2]
    have e4 : j / 2 = i / 2 := by omega
    have e5 : j % 2 = 0 := by omega
    simp [e2, e4, e5]; omega
  ·rw [if_neg e1]
   by_cases e2 : i = q
   ·subst e2
    simp only [if_true]
    by_cases e2 : i % 2 = 0
    ·simp [e2]; omega
    ·simp [e2]
   ·rw [if_neg e2]
    have e3 : ¬ q / 2 = i / 2 := by split at hj <;> omega
    simp [e3]
theorem ok85 (N i : Nat) (c : Int) (R : List Arc) (hi : i < R.length) : OkN 85 [.i i, .ptr 0 0 0, .ptr 1 0 0] [.var [.i c], .var [.i N, .sl 2 0 R.length], .arr 4 (R.map Arc.enc)] (IsA (.tup []) [.var [.i (min c R[i].cap)], .var [.i N, .sl 2 0 R.length], .arr 4 (R.map Arc.enc)]) := by
 refine okN_of [0, 1, 2] lw85 (by simp) ⟨trivial, trivial, trivial, trivial⟩ rfl ?_
 unfold c85
 simp -implicitDefEqProofs only [rX,↓rY,rZ,cells?,splice,↓reduceIte,Nat.reduceEqDiff,arrSz,Nat.reduceAdd,reduceCtorEq,resP,tupV,leH,leB,leV,leVs,keepP,liveP,wfB,wfV,wfL,isC,cxN,args0,cxN,retP_isA]
 exact ⟨⟨by omega, by omega⟩, by omega, trivial⟩
theorem ok86 (N i : Nat) (c : Int) (arcs : List Arc) (fl : List Int) (hi : i < 2 * arcs.length) (hL : arcs.length ≤ 2048) (hl : fl.length = arcs.length) (hc : 0 ≤ c ∧ c ≤ 1073741824) (hb : ∀ q (h : q < (restA arcs fl arcs.length).length), -4294967296 ≤ (restA arcs fl arcs.length)[q].cap ∧ (restA arcs fl arcs.length)[q].cap ≤ 4294967296) :
  OkN 86 [.i i, .ptr 0 0 0, .ptr 1 0 0] [.var [.i N, .sl 2 0 (2 * arcs.length)], .var [.i c], .arr 4 ((restA arcs fl arcs.length).map Arc.enc)] (IsA (.tup []) [.var [.i N, .sl 2 0 (2 * arcs.length)], .var [.i c], .arr 4 ((restA arcs (push1 c fl i) arcs.length).map Arc.enc)]) := by
 refine okN_of [0, 1, 2] lw86 (by simp) ⟨trivial, trivial, trivial, trivial⟩ rfl ?_
 unfold c86
 simp -implicitDefEqProofs only [rX,↓rY,rZ,ofConst,cells?,splice,↓reduceIte,Nat.reduceEqDiff,arrSz,Nat.reduceAdd,reduceCtorEq,resP,tupV,leH,leB,leV,leVs,keepP,liveP,wfB,wfV,wfL,isD,isC,Nat.reduceLeDiff,cxN,args0,cxN,retP_isA,↓bi_xr,xor1 (show i < 1000000 by omega)]
 obtain ⟨j, hj⟩ : ∃ j, j = if i % 2 = 0 then i + 1 else i - 1 := ⟨_, rfl⟩
 have hlen : (restA arcs fl arcs.length).length = 2 * arcs.length := restA_len _ _ _
 have hj1 : j < 2 * arcs.length := by split at hj <;> omega
 have hij : ¬ i = j := by split at hj <;> omega
 have hb1 := hb i (by omega)
 have hb2 := hb j (by omega)
 simp only [← hj]
 refine ⟨⟨by omega, by omega⟩, by omega, ⟨by simp only [lo]; omega, by simp only [Fx.hi]; omega⟩, ⟨by omega, by omega⟩, by omega, ⟨by omega, by omega⟩, by simp only [uR, yM]; omega, ?_⟩
 have e1 : ((vB Arc.enc (restA arcs fl arcs.length)).set i (yS 2 (restA arcs fl arcs.length)[i].enc ++ [V.v (Value.int IntKind.i64 ((restA arcs fl arcs.length)[i].cap - c))] ++ vU 3 (restA arcs fl arcs.length)[i].enc))[j]'(by simp; omega) = (restA arcs fl arcs.length)[j].enc := by
  rw [List.getElem_set_ne hij, vS]
 rw [e1]
 simp -implicitDefEqProofs only [rX,↓rY,rZ]
 refine ⟨⟨by simp only [lo]; omega, by simp only [Fx.hi]; omega⟩, ⟨by omega, by omega⟩, by simp only [uR, yM]; omega, ?_⟩
 rw [← restA_push arcs fl arcs.length i c (by omega) rfl hl _ rfl (by omega) j hj (by omega), vA, vA]
 simp only [e1]
 rfl
end Go.Fx.P.F
namespace Go.Fx.P.F
open Go Go.Fx Go.Proofs
set_option maxRecDepth 20000
def bH (N : Nat) (f t : Int) (R : List Arc) (s : List Int × List Int) (c : Int) : List Blk :=
 [.var [.i t], .var [.i f], .var [.i N, .sl 5 0 R.length], .var [.mp 4], .map (ents s.1 s.2) s.2.length, .arr 4 (R.map Arc.enc), .var [.i c]]
theorem ok84a (N : Nat) (f t : Int) (R : List Arc) (c : Int) (hN : N ≤ 256) (hR : R.length ≤ 4096) (hf : 0 ≤ f ∧ f < N) (hT : ∀ i, i < R.length → 0 ≤ (gA R i).to ∧ (gA R i).to < N) (j0 : Nat) (hS : Srch R N f (srch R N f)) (hj0 : (srch R N f).2[j0]? = some t) :
  OkN 84 [.clo 85 [.ptr 6 0 0, .ptr 2 0 0], .ptr 0 0 0, .ptr 1 0 0, .ptr 2 0 0, .ptr 3 0 0] (bH N f t R (srch R N f) c)
   (IsA (.tup []) (bH N f t R (srch R N f) (leastOf R (walk R (srch R N f) j0 t) c))) := by
 refine okN_of [0, 1, 2, 3, 4, 5, 6] lw84 (by simp) ⟨trivial, trivial, trivial, trivial, trivial, trivial, trivial, trivial⟩ rfl ?_
 unfold c84 bH
 simp -implicitDefEqProofs only [rX,↓rY,↓reduceIte,Nat.reduceAdd,reduceCtorEq,cxN,args0,cxN]
 generalize hs : srch R N f = s at *
 refine loopP_intro (fun g : Nat × Int × Int => ⟨[(6, .i g.2.1), (4, .ptr 3 0 0), (3, .ptr 2 0 0), (2, .ptr 1 0 0), (1, .ptr 0 0 0), (0, .clo 85 [.ptr 6 0 0, .ptr 2 0 0])], bH N f t R s g.2.2, 0⟩)
  (fun g => s.2[g.1]? = some g.2.1 ∧ leastOf R (walk R s g.1 g.2.1) g.2.2 = leastOf R (walk R s j0 t) c) (fun g => g.1) (j0, t, c) ⟨hj0, rfl⟩ ?_ ?_
 ·unfold bH
  simp -implicitDefEqProofs only [rX,↓reduceIte,Nat.reduceEqDiff,reduceCtorEq,leE,leH,leB,leV,leVs,keepP,liveP,wfE,wfB,wfV,wfL,leVs,leV,eq_true ents_wf]
 rintro ⟨j, v, c'⟩ ⟨hjv, hle⟩
 simp only at hjv hle
 have hvr := hS.rng v (yF hjv)
 unfold c84l0 bH
 rcases hS.pos hjv with ⟨rfl, rfl⟩ | ⟨hj, hvf⟩
 ·simp -implicitDefEqProofs only [rX,↓rY,↓reduceIte,Nat.reduceEqDiff,Nat.reduceAdd,resP,tupV,leH,leB,leV,leVs,keepP,liveP,wfB,wfV,wfL,bne_self_eq_false,retP_isA,leVs,leV,eq_true ents_wf]
  rw [walk_root hS] at hle
  exact hle
 ·cases j with
  | zero => omega
  | succ j =>
  obtain ⟨i, h1, h2, h3, h4, ⟨j', h5, h6⟩, h7⟩ := walk_step hS (by omega) hjv j
  obtain ⟨q, hq⟩ := find_yes (b := s.1) (yF hjv)
  rw [h2] at hq
  have hvf2 : (v != f) = true := by simpa using hvf
  simp -implicitDefEqProofs only [rX,↓rY,↓reduceIte,Nat.reduceEqDiff,Nat.reduceAdd,reduceCtorEq,hvf2,hq]
  have hgi : gA R i = R[i] := getD_nil (a := ⟨0,0,0,0⟩) h1
  refine call_isN [6, 2, 5] [.i i, .ptr 0 0 0, .ptr 1 0 0] (.tup []) (.tup []) [.var [.i c'], .var [.i N, .sl 2 0 R.length], .arr 4 (R.map Arc.enc)] [.var [.i (min c' R[i].cap)], .var [.i N, .sl 2 0 R.length], .arr 4 (R.map Arc.enc)] (bH N f t R s (min c' R[i].cap)) (ok85 N i c' R h1) (by simp) rfl (by simp [lendsOk, lendOk, lends, lend, wkL, wk, pos]) (by simp) rfl rfl ⟨trivial, trivial, trivial, trivial, trivial, trivial, trivial, trivial⟩ ?_
  unfold bH
  simp -implicitDefEqProofs only [rX,↓rY,rZ,↓reduceIte,Nat.reduceEqDiff,arrSz,Nat.reduceAdd,reduceCtorEq,leE,leH,leB,leV,leVs,keepP,liveP,wfE,wfB,wfV,wfL,hq,leVs,leV,eq_true ents_wf]
  refine ⟨⟨by omega, by omega⟩, h1, (j', R[i].from_, min c' R[i].cap), ⟨⟨by rw [← hgi]; exact h6, ?_⟩, h5⟩, rfl, rfl⟩
  rw [← hle, h7, ← hgi, ← walk_fuel hS j' _ j h6 (by omega)]
  rfl
theorem restA_from (arcs : List Arc) (fl fl' : List Int) (k i : Nat) (hi : i < 2 * k) : (gA (restA arcs fl k) i).from_ = (gA (restA arcs fl' k) i).from_ := by
 by_cases h : i % 2 = 0
 ·rw [show i = 2 * (i / 2) by omega, restA_even arcs fl k _ (by omega), restA_even arcs fl' k _ (by omega)]
 ·rw [show i = 2 * (i / 2) + 1 by omega, restA_odd arcs fl k _ (by omega), restA_odd arcs fl' k _ (by omega)]
theorem restA_cap (arcs : List Arc) (fl : List Int) (k q : Nat) (h : q < (restA arcs fl k).length) (hc : ∀ q, 0 ≤ (gA arcs q).cap ∧ (gA arcs q).cap ≤ 1073741824) (hb : ∀ q, -1073741824 ≤ fl.getD q 0 ∧ fl.getD q 0 ≤ 2147483648) : -4294967296 ≤ (restA arcs fl k)[q].cap ∧ (restA arcs fl k)[q].cap ≤ 4294967296 := by
 have hq := h
 rw [restA_len] at hq
 have h1 := hc (q / 2)
 have h2 := hb (q / 2)
 rw [← getD_nil (a := ⟨0,0,0,0⟩) h]
 by_cases hp : q % 2 = 0
 ·conv => rw [show q = 2 * (q / 2) by omega]
  rw [restA_even arcs fl k _ (by omega)]
  simp only
  omega
 ·conv => rw [show q = 2 * (q / 2) + 1 by omega]
  rw [restA_odd arcs fl k _ (by omega)]
  simp only
  omega
theorem caps_in {N : Nat} {arcs : List Arc} (hV : Val N arcs) : ∀ q, 0 ≤ (gA arcs q).cap ∧ (gA arcs q).cap ≤ 1073741824 := by
 intro q
 by_cases h : q < arcs.length
 ·rw [getD_nil (a := ⟨0,0,0,0⟩) h]
  exact (hV.ha arcs[q] (yD h)).2
 ·simp [gA, yA, uS (show arcs.length ≤ q by omega)]
theorem ok84b (N : Nat) (f t : Int) (arcs : List Arc) (fl : List Int) (c : Int) (hV : Val N arcs) (hl : fl.length = arcs.length) (hp : possP arcs fl) (hc : 0 ≤ c ∧ c ≤ 1073741824) (hf : 0 ≤ f ∧ f < N) (j0 : Nat) (hj0 : (srch (restA arcs fl arcs.length) N f).2[j0]? = some t) :
  OkN 84 [.clo 86 [.ptr 2 0 0, .ptr 6 0 0], .ptr 0 0 0, .ptr 1 0 0, .ptr 2 0 0, .ptr 3 0 0] (bH N f t (restA arcs fl arcs.length) (srch (restA arcs fl arcs.length) N f) c)
   (IsA (.tup []) (bH N f t (restA arcs (pushAll c fl (walk (restA arcs fl arcs.length) (srch (restA arcs fl arcs.length) N f) j0 t)) arcs.length) (srch (restA arcs fl arcs.length) N f) c)) := by
 have hL := hV.hl
 have hN := hV.hn
 have hS : Srch (restA arcs fl arcs.length) N f (srch (restA arcs fl arcs.length) N f) := Srch.bfs hf (rest_to hV fl) N
 have hh := walk_halves arcs N f fl hS j0 t hj0
 have ha := walk_arcs hS j0 t hj0
 refine okN_of [0, 1, 2, 3, 4, 5, 6] lw84 (by simp) ⟨trivial, trivial, trivial, trivial, trivial, trivial, trivial, trivial⟩ rfl ?_
 unfold c84 bH
 simp -implicitDefEqProofs only [rX,↓rY,↓reduceIte,Nat.reduceAdd,reduceCtorEq,cxN,args0,cxN,restA_len]
 generalize hs : srch (restA arcs fl arcs.length) N f = s at *
 generalize hW : walk (restA arcs fl arcs.length) s j0 t = W at *
 refine loopP_intro (fun g : Nat × Int × List Nat => ⟨[(6, .i g.2.1), (4, .ptr 3 0 0), (3, .ptr 2 0 0), (2, .ptr 1 0 0), (1, .ptr 0 0 0), (0, .clo 86 [.ptr 2 0 0, .ptr 6 0 0])], bH N f t (restA arcs (pushAll c fl g.2.2) arcs.length) s c, 0⟩)
  (fun g => s.2[g.1]? = some g.2.1 ∧ W = g.2.2 ++ walk (restA arcs fl arcs.length) s g.1 g.2.1) (fun g => g.1) (j0, t, []) ⟨hj0, by rw [hW]; rfl⟩ ?_ ?_
 ·unfold bH
  simp -implicitDefEqProofs only [rX,↓reduceIte,Nat.reduceEqDiff,reduceCtorEq,leE,leH,leB,leV,leVs,keepP,liveP,wfE,wfB,wfV,wfL,leVs,leV,eq_true ents_wf,restA_len,pushAll,List.foldl_nil]
 rintro ⟨j, v, p1⟩ ⟨hjv, hw⟩
 simp only at hjv hw
 have hvr := hS.rng v (yF hjv)
 unfold c84l0 bH
 rcases hS.pos hjv with ⟨rfl, rfl⟩ | ⟨hj, hvf⟩
 ·rw [walk_root hS, uB] at hw
  simp -implicitDefEqProofs only [rX,↓rY,↓reduceIte,Nat.reduceEqDiff,Nat.reduceAdd,resP,tupV,leH,leB,leV,leVs,keepP,liveP,wfB,wfV,wfL,bne_self_eq_false,retP_isA,leVs,leV,eq_true ents_wf,hw,restA_len]
 ·cases j with
  | zero => omega
  | succ j =>
  obtain ⟨i, h1, h2, h3, h4, ⟨j', h5, h6⟩, h7⟩ := walk_step hS (by omega) hjv j
  obtain ⟨q, hq⟩ := find_yes (b := s.1) (yF hjv)
  rw [h2] at hq
  have hvf2 : (v != f) = true := by simpa using hvf
  have hi1 := h1
  rw [restA_len] at hi1
  have hp1 : (p1.map (·/ 2)).Nodup := by
   rw [hw, vH] at hh
   exact (List.nodup_append.1 hh).1
  have hval := pushAll_get (d := c) (fl := fl) hp1 (fun i2 hi2 => by
   have := (ha i2 (by rw [hw]; exact uY _ hi2)).1
   rw [restA_len] at this; omega)
  have hbd : ∀ q, -1073741824 ≤ (pushAll c fl p1).getD q 0 ∧ (pushAll c fl p1).getD q 0 ≤ 2147483648 := by
   intro q
   have h0 : 0 ≤ fl.getD q 0 ∧ fl.getD q 0 ≤ 1073741824 := by
    by_cases hq : q < arcs.length
    ·have := (poss_iff hl).1 hp q hq
     have := caps_in hV q
     omega
    ·simp [yA, uS (show fl.length ≤ q by omega)]
   rw [hval]
   split <;> split <;> omega
  have hstep : pushAll c fl (p1 ++ [i]) = push1 c (pushAll c fl p1) i := by simp [pushAll, List.foldl_append]
  have e56 := ok86 N i c arcs (pushAll c fl p1) hi1 hL (by rw [pushAll_len, hl]) hc (fun q h => restA_cap arcs _ _ q h (caps_in hV) hbd)
  rw [← hstep] at e56
  simp -implicitDefEqProofs only [rX,↓rY,↓reduceIte,Nat.reduceEqDiff,Nat.reduceAdd,reduceCtorEq,hvf2,hq,restA_len]
  refine call_isN [2, 6, 5] [.i i, .ptr 0 0 0, .ptr 1 0 0] (.tup []) (.tup []) [.var [.i N, .sl 2 0 (2 * arcs.length)], .var [.i c], .arr 4 ((restA arcs (pushAll c fl p1) arcs.length).map Arc.enc)] [.var [.i N, .sl 2 0 (2 * arcs.length)], .var [.i c], .arr 4 ((restA arcs (pushAll c fl (p1 ++ [i])) arcs.length).map Arc.enc)] (bH N f t (restA arcs (pushAll c fl (p1 ++ [i])) arcs.length) s c) e56 (by simp) rfl (by simp [lendsOk, lendOk, lends, lend, wkL, wk, pos]) (by simp) (by unfold bH; rw [restA_len]; rfl) rfl ⟨trivial, trivial, trivial, trivial, trivial, trivial, trivial, trivial⟩ ?_
  unfold bH
  simp -implicitDefEqProofs only [rX,↓rY,rZ,↓reduceIte,Nat.reduceEqDiff,arrSz,Nat.reduceAdd,reduceCtorEq,leE,leH,leB,leV,leVs,keepP,liveP,wfE,wfB,wfV,wfL,hq,leVs,leV,eq_true ents_wf,restA_len]
  have hgi : (gA (restA arcs fl arcs.length) i).from_ = ((restA arcs (pushAll c fl (p1 ++ [i])) arcs.length)[i]'(by rw [restA_len]; exact hi1)).from_ := by
   rw [restA_from arcs fl (pushAll c fl (p1 ++ [i])) _ _ hi1]
   rw [getD_nil (a := ⟨0,0,0,0⟩) (by rw [restA_len]; exact hi1)]
  refine ⟨⟨by omega, by omega⟩, by omega, (j', (gA (restA arcs fl arcs.length) i).from_, p1 ++ [i]), ⟨⟨h6, ?_⟩, h5⟩, by rw [hgi], rfl⟩
  show W = (p1 ++ [i]) ++ walk (restA arcs fl arcs.length) s j' (gA (restA arcs fl arcs.length) i).from_
  rw [hw, h7, walk_fuel hS j' _ j h6 (by omega)]
  simp
end Go.Fx.P.F
namespace Go.Fx.P.F
open Go Go.Fx Go.Proofs
set_option maxRecDepth 20000
def eH (N m : Nat) (arcs R : List Arc) (f t : Int) (s : List Int × List Int) (w : List Int) (l : List Int) (cut : List Bool) : List Blk :=
 k12 N m arcs R f t (begC R N) [.map (ents s.1 s.2) s.2.length, .var [.mp 12], .arr 1 (w.map encI), .arr 1 (l.map encI), .arr 1 (cut.map encB)]
theorem take_set {l : List Int} {i : Nat} (h : i < l.length) : ((l.take i ++ yC (l.length - i) 0).set i l[i]) = l.take (i + 1) ++ yC (l.length - (i + 1)) 0 := by
 apply yK
 ·simp; omega
 ·intro q h1 h2
  rw [vF]
  by_cases e : i = q
  ·subst e
   simp [uZ, h]
   omega
  ·rw [if_neg e]
   simp only [uZ, uD, List.getElem_take, xA]
   by_cases e2 : q < i
   ·rw [dif_pos (by omega), dif_pos (by omega)]
   ·rw [dif_neg (by omega), dif_neg (by omega)]
def pat5 (N m : Nat) (arcs R : List Arc) (f t : Int) (s : List Int × List Int) (w fl : List Int) (i : Nat) : St :=
 ⟨[(126, .i i), (125, .i fl.length), (23, .sl 16 0 N), (22, .sl 15 0 fl.length), (12, .ptr 13 0 0), (8, .ptr 4 0 0)], eH N m arcs R f t s w (fl.take i ++ yC (fl.length - i) 0) (yC N false), 0⟩
theorem body36e (N m : Nat) (arcs : List Arc) (f t : Int) (s : List Int × List Int) (w fl : List Int) (hm : arcs.length = m + 1) (hL : arcs.length ≤ 2048) (hl : fl.length = arcs.length) {RR : St → Prop} {X : Nat → St → Prop}
  (hX : ∀ b y z, X 8 ⟨(127, y) :: (126, z) :: [(125, .i fl.length), (23, .sl 16 0 N), (22, .sl 15 0 fl.length), (12, .ptr 13 0 0), (8, .ptr 4 0 0)], eH N m arcs (restA arcs fl (m + 1)) f t s w fl (yC N false), b⟩)
  (i : Nat) (hi : i ≤ fl.length) :
  aw cx0 c59l4 (fun s' => ∃ g' : Nat, (g' ≤ fl.length ∧ fl.length - g' < fl.length - i) ∧ leS cx0.fx s' (pat5 N m arcs (restA arcs fl (m + 1)) f t s w fl g')) X RR (pat5 N m arcs (restA arcs fl (m + 1)) f t s w fl i) := by
 have hRl : (restA arcs fl (m + 1)).length = 2 * (m + 1) := restA_len _ _ _
 unfold c59l4 pat5 eH k12
 simp -implicitDefEqProofs only [rX,↓rY,rZ,ofConst,cells?,splice,↓reduceIte,Nat.reduceEqDiff,arrSz,Nat.reduceAdd,leE,leH,leB,leV,leVs,keepP,liveP,wfE,wfB,wfV,wfL,isD,isC,cxN,hRl]
 simp only [br, decide_eq_true_eq, decide_eq_false_iff_not]
 refine ⟨fun hc => ?_, fun hc => ?_⟩
 ·have hil : i < fl.length := by omega
  have hcast : (2 * (i : Int) + 1).toNat = 2 * i + 1 := by omega
  have hcap : ∀ h : 2 * i + 1 < (restA arcs fl (m + 1)).length, (restA arcs fl (m + 1))[2 * i + 1].cap = fl[i] := by
   intro h
   rw [← getD_nil (a := ⟨0,0,0,0⟩) h, restA_odd arcs fl _ _ (by omega)]
   simp [yA, yB hil]
  simp only [hcast, hcap, eq_true begC_wf, eq_true ents_wf]
  refine ⟨⟨by simp only [lo]; omega, by simp only [Fx.hi]; omega⟩, ⟨by simp only [lo]; omega, by simp only [Fx.hi]; omega⟩, ⟨by omega, by omega⟩, by omega, ⟨by omega, by omega⟩, by simp; omega, ⟨by simp only [lo]; omega, by simp only [Fx.hi]; omega⟩, i + 1, ⟨by omega, by omega⟩, by omega, ?_, trivial, trivial⟩
  rw [show [V.v (Value.int IntKind.i64 fl[i])] = encI fl[i] from rfl, ← vA, take_set hil]
 ·have : i = fl.length := by omega
  subst this
  have := hX 17 (.b (decide ((fl.length : Int) < fl.length))) (.i fl.length)
  unfold eH k12 at this
  simpa using this
def cutS (N : Nat) (ord : List Int) (seen : List Nat) : List Bool := (yG N).map fun (q : Nat) => seen.any fun j => ord[j]? == some (q : Int)
theorem cutS_nil {N : Nat} {ord : List Int} : cutS N ord [] = yC N false := by
 apply yK
 ·simp [cutS]
 ·intro q h1 h2; simp [cutS]
theorem cutS_add {N : Nat} {ord : List Int} {seen : List Nat} {j : Nat} {v : Int} (hn : ord.Nodup) (hj : ord[j]? = some v) (hv : 0 ≤ v) : (cutS N ord seen).set v.toNat true = cutS N ord (seen ++ [j]) := by
 apply yK
 ·simp [cutS]
 ·intro q h1 h2
  simp only [cutS, vF, vS, uH, List.any_append, List.any_cons, List.any_nil, Bool.or_false, hj]
  by_cases e : v.toNat = q
  ·have : (some v == some (q : Int)) = true := by simp; omega
   simp [e, this]
  ·have : (some v == some (q : Int)) = false := by simp; omega
   simp [e, this]
theorem cutS_all {R : List Arc} {N : Nat} {f : Int} {s : List Int × List Int} (hS : Srch R N f s) {seen : List Nat} (h : ∀ j, j < s.2.length → j ∈ seen) : cutS N s.2 seen = cutK N s.1 N := by
 unfold cutS cutK
 refine vZ fun q hq => ?_
 rw [yX] at hq
 have hm := hS.mem q hq
 simp only [hq, decide_true, Bool.true_and]
 rw [Bool.eq_iff_iff, List.any_eq_true]
 simp only [beq_iff_eq, bne_iff_ne]
 rw [hm]
 constructor
 ·rintro ⟨j, _, h2⟩
  exact yF h2
 ·intro h2
  obtain ⟨j, h3, h4⟩ := yQ h2
  exact ⟨j, h j h3, by rw [yB h3, h4]⟩
theorem ents_mem {b ord : List Int} {e : Value × V × Nat} (h : e ∈ ents b ord) : ∃ v, ord[e.2.2]? = some v ∧ e = (.int .i64 v, V.i (b.getD v.toNat 0), e.2.2) := by
 unfold ents at h
 rw [yV] at h
 obtain ⟨⟨v, j⟩, h1, rfl⟩ := h
 have h2 := List.mem_zipIdx' h1
 exact ⟨v, by simp only [ent1]; rw [h2.2]; exact yB h2.1, rfl⟩
theorem ents_find {b ord : List Int} {e : Value × V × Nat} (h : e ∈ ents b ord) : (ents b ord).find? (fun q => q.2.2 == e.2.2) = some e := by
 obtain ⟨v, h1, h2⟩ := ents_mem h
 obtain ⟨x, hx⟩ : ∃ x, (ents b ord).find? (fun q => q.2.2 == e.2.2) = some x := by
  rw [← Option.isSome_iff_exists, List.find?_isSome]
  exact ⟨e, h, by simp⟩
 have h3 := List.mem_of_find?_eq_some hx
 have h4 := List.find?_some hx
 obtain ⟨v', h5, h6⟩ := ents_mem h3
 simp only [beq_iff_eq] at h4
 rw [h4, h1] at h5
 simp only [yJ] at h5
 subst h5
 rw [hx, h6, h2, h4]
theorem ents_at {b ord : List Int} {j : Nat} (h : j < ord.length) : ∃ e ∈ ents b ord, e.2.2 = j := by
 refine ⟨ent1 b (ord[j], j), ?_, rfl⟩
 unfold ents
 exact List.mem_map_of_mem (List.mem_zipIdx_iff_getElem?.2 (by simp [h]))
theorem ents_born {b ord : List Int} : ((ents b ord).all fun e => decide (e.2.2 < ord.length)) = true := by
 rw [vR]
 intro e he
 obtain ⟨v, h1, _⟩ := ents_mem he
 have := (yN.1 h1).1
 simpa using this
def left (n : Nat) (seen : List Nat) : Nat := ((yG n).filter fun j => !seen.contains j).length
theorem left_less {n j : Nat} {seen : List Nat} (hj : j < n) (h : seen.contains j = false) : left n (seen ++ [j]) < left n seen := by
 unfold left
 have e : (yG n).filter (fun q => !(seen ++ [j]).contains q) = ((yG n).filter fun q => !seen.contains q).filter fun q => !decide (q = j) := by
  rw [List.filter_filter]
  refine List.filter_congr fun q _ => ?_
  simp
  exact Bool.and_comm _ _
 rw [e, List.length_filter_lt_length_iff_exists]
 exact ⟨j, by simp at h; simp [hj, h], by simp⟩
def pat6 (N m : Nat) (arcs R : List Arc) (f t : Int) (s : List Int × List Int) (w fl : List Int) (seen : List Nat) : St :=
 ⟨[(142, .ptr 17 0 0), (23, .sl 16 0 N), (22, .sl 15 0 fl.length)], eH N m arcs R f t s w fl (cutS N s.2 seen) ++ [.it (.mp 12) s.2.length seen s.2.length], 0⟩
theorem body36f (N m : Nat) (arcs R : List Arc) (f t : Int) (s : List Int × List Int) (w fl : List Int) (hS : Srch R N f s) {RR : St → Prop} {X : Nat → St → Prop}
  (hX : ∀ b sn x y, X 10 ⟨(144, x) :: (143, y) :: [(142, .ptr 17 0 0), (23, .sl 16 0 N), (22, .sl 15 0 fl.length)], eH N m arcs R f t s w fl (cutK N s.1 N) ++ [.it (.mp 12) s.2.length sn s.2.length], b⟩)
  (seen : List Nat) :
  aw cx0 c59l5 (fun s' => ∃ g' : List Nat, (True ∧ left s.2.length g' < left s.2.length seen) ∧ leS cx0.fx s' (pat6 N m arcs R f t s w fl g')) X RR (pat6 N m arcs R f t s w fl seen) := by
 unfold c59l5 pat6 eH k12
 simp -implicitDefEqProofs only [rX,↓rY,rZ,ofConst,cells?,splice,↓reduceIte,Nat.reduceEqDiff,arrSz,Nat.reduceAdd,leE,leH,leB,leV,leVs,keepP,liveP,wfE,wfB,wfV,wfL,isD,isC,cxN]
 refine ⟨⟨ents_born, yE _⟩, fun hall => ?_, fun e he hne => ?_⟩
 ·have hcut : cutS N s.2 seen = cutK N s.1 N := cutS_all hS fun j hj => by
   obtain ⟨e, h1, h2⟩ := ents_at (b := s.1) hj
   have := vR.1 hall e h1
   rw [h2] at this
   simpa using this
  rw [hcut]
  exact hX _ _ _ _
 ·obtain ⟨v, h1, h2⟩ := ents_mem he
  have hvr := hS.rng v (yF h1)
  have hj := (yN.1 h1).1
  have hfind := ents_find he
  rw [xB]
  simp -implicitDefEqProofs only [rX,↓rY,hfind]
  rw [h2]
  simp -implicitDefEqProofs only [rX,eq_true begC_wf,eq_true ents_wf]
  refine ⟨hvr, ?_, seen ++ [e.2.2], left_less hj hne, ?_, rfl⟩
  ·simp [cutS]; omega
  ·rw [show [V.v (Value.bool true)] = encB true from rfl, ← vA, cutS_add hS.nod h1 hvr.1]
end Go.Fx.P.F
namespace Go.Fx.P.F
open Go Go.Fx Go.Proofs
set_option maxRecDepth 20000
def pat2 (N m : Nat) (arcs : List Arc) (f t : Int) (fl : List Int) : St :=
 ⟨[(9, .sl 11 0 N), (8, .ptr 4 0 0), (5, .ptr 2 0 0), (4, .ptr 1 0 0), (3, .ptr 0 0 0)], k12 N m arcs (restA arcs fl (m + 1)) f t (begC (restA arcs fl (m + 1)) N) [], 0⟩
def res36 (N : Nat) (arcs : List Arc) (f : Int) (r : List Int) : V → List Blk → Prop :=
 IsA (.tup [.sl 15 0 arcs.length, .sl 16 0 N]) [.dead, .dead, .dead, .dead, .dead, .dead, .dead, .dead, .dead, .dead, .dead, .dead, .dead, .dead, .dead, .arr 1 (r.map encI), .arr 1 ((cutOf arcs N f r).map encB)]
theorem body36b (N m : Nat) (arcs : List Arc) (f t : Int) (r : List Int) (hm : arcs.length = m + 1) (hV : Val N arcs) (hf : 0 ≤ f ∧ f < N) (ht : 0 ≤ t ∧ t < N) (hft : f ≠ t) {X : Nat → St → Prop}
  (fl : List Int) (hI : (fl.length = arcs.length ∧ possP arcs fl) ∧ Run arcs N f t fl r) :
  aw cx0 c59l1 (fun s' => ∃ g' : List Int, (((g'.length = arcs.length ∧ possP arcs g') ∧ Run arcs N f t g' r) ∧ ((arcs.length : Int) * 1073741824 - valTo arcs f g' arcs.length).toNat < ((arcs.length : Int) * 1073741824 - valTo arcs f fl arcs.length).toNat) ∧ leS cx0.fx s' (pat2 N m arcs f t g')) X (retP [] 0 [.tmp 6, .tmp 7] (res36 N arcs f r)) (pat2 N m arcs f t fl) := by
 obtain ⟨⟨hl, hp⟩, hR⟩ := hI
 have hL := hV.hl
 have hN := hV.hn
 have hRl : (restA arcs fl (m + 1)).length = 2 * (m + 1) := restA_len _ _ _
 have hRT := rest_to hV fl
 have hS : Srch (restA arcs fl arcs.length) N f (srch (restA arcs fl arcs.length) N f) := Srch.bfs hf hRT N
 rw [hm] at hRT hS
 unfold c59l1 pat2 k12
 simp -implicitDefEqProofs only [rX,↓rY,ofConst,cells?,splice,↓reduceIte,Nat.reduceEqDiff,Nat.reduceAdd,freshP,litsP,isD,isC,Nat.reduceLT,cxN]
 refine loopP_intro (pat4 N m arcs (restA arcs fl (m + 1)) f t) (fun g => InO (restA arcs fl (m + 1)) N f g.1 g.2.1 g.2.2.1 g.2.2.2) (fun g => N - g.1) (0, 0, 1, [f]) ⟨rfl, rfl, vO _⟩ ?_ (body36c N m arcs (restA arcs fl (m + 1)) f t hN.2 (by omega) hRl hf hRT ?_)
 ·have h0 : ents (bfsTo (restA arcs fl (m + 1)) N f 0).1 (bfsTo (restA arcs fl (m + 1)) N f 0).2 = [(.int .i64 f, V.i (-1), 0)] := by
   have : f.toNat < (yC N (-2 : Int)).length := by simp; omega
   have h1 : (bfsTo (restA arcs fl (m + 1)) N f 0).1.getD f.toNat 0 = -1 := by
    show ((yC N (-2 : Int)).set f.toNat (-1)).getD f.toNat 0 = -1
    rw [getD_set this]; simp
   show [ent1 _ (f, 0)] = _
   simp only [ent1]
   rw [h1]
  unfold pat4 sE sH k12
  simp -implicitDefEqProofs only [rX,↓reduceIte,Nat.reduceEqDiff,leE,leH,leB,leV,leVs,keepP,liveP,wfE,wfB,wfV,wfL,leVs,leV,eq_true begC_wf,eq_true ents_wf,h0]
  exact ⟨rfl, rfl⟩
 intro j n w b y63 y64 y65
 unfold sE sH k12
 simp only [↓reduceIte]
 generalize hs : srch (restA arcs fl (m + 1)) N f = s at *
 by_cases hin : t ∈ s.2
 ·obtain ⟨q, hq⟩ := find_yes (b := s.1) hin
  simp -implicitDefEqProofs only [rX,↓rY,ofConst,cells?,splice,↓reduceIte,Nat.reduceEqDiff,Nat.reduceAdd,freshP,isC,hq]
  obtain ⟨j0, hj0, hjt⟩ := yQ hin
  have hjt : s.2[j0]? = some t := by rw [yB hj0, hjt]
  have hj0N : j0 ≤ N := by
   have := nodup_le N hS.nod hS.rng
   omega
  have hb : ¬ s.1.getD t.toNat 0 = -2 := by
   have := (hS.mem t.toNat (by omega)).2 (by rw [yH ht.1]; exact hin)
   exact this
  have ha := walk_arcs hS j0 t hjt
  obtain ⟨c, hc⟩ : ∃ c, c = leastOf (restA arcs fl (m + 1)) (walk (restA arcs fl (m + 1)) s j0 t) 1073741824 := ⟨_, rfl⟩
  have hcb := leastOf_le (restA arcs fl (m + 1)) (walk (restA arcs fl (m + 1)) s j0 t) 1073741824
  have hcp := leastOf_pos (restA arcs fl (m + 1)) (walk (restA arcs fl (m + 1)) s j0 t) 1073741824 (by omega) (fun i hi => (ha i hi).2.1)
  rw [← hc] at hcb hcp
  have hround : round arcs N f t fl = some (pushAll c fl (walk (restA arcs fl (m + 1)) s j0 t)) := by
   unfold round
   rw [hm, hs, if_neg hb, walk_fuel hS j0 t N hjt hj0N, ← hc]
  have e1 := ok84a N f t (restA arcs fl (m + 1)) 1073741824 hN.2 (by omega) hf hRT j0 (by rw [hs]; exact hS) (by rw [hs]; exact hjt)
  have e2 := ok84b N f t arcs fl c hV hl hp ⟨by omega, by omega⟩ hf j0 (by rw [hm, hs]; exact hjt)
  rw [hs, ← hc] at e1
  rw [hm, hs] at e2
  refine call_isN [2, 1, 4, 13, 12, 10, 15] [.clo 85 [.ptr 6 0 0, .ptr 2 0 0], .ptr 0 0 0, .ptr 1 0 0, .ptr 2 0 0, .ptr 3 0 0] (.tup []) (.tup []) _ _ (sH N m arcs (restA arcs fl (m + 1)) f t s w ++ [.var [.i c]]) e1 (by simp [cx0]) (by unfold bH; simp [blk, renB, rens, ren, pos, ents_ren, restA_len]) (by simp [lendsOk, lendOk, lends, lend, wkL, wk, pos]) (by unfold bH; simp) ?_ rfl trivial ?_
  ·unfold bH sH k12
   simp [setAll, renB, rens, ren, back, ents_ren, restA_len]
  unfold sH k12
  simp -implicitDefEqProofs only [rX,↓rY,↓reduceIte,Nat.reduceEqDiff,Nat.reduceAdd]
  refine call_isN [2, 1, 4, 13, 12, 10, 15] [.clo 86 [.ptr 2 0 0, .ptr 6 0 0], .ptr 0 0 0, .ptr 1 0 0, .ptr 2 0 0, .ptr 3 0 0] (.tup []) (.tup []) _ _ (k12 N m arcs (restA arcs (pushAll c fl (walk (restA arcs fl (m + 1)) s j0 t)) (m + 1)) f t (begC (restA arcs fl (m + 1)) N) [.map (ents s.1 s.2) s.2.length, .var [.mp 12], .arr 1 (w.map encI), .var [.i c]]) e2 (by simp [cx0]) (by unfold bH; simp [blk, renB, rens, ren, pos, ents_ren, restA_len]) (by simp [lendsOk, lendOk, lends, lend, wkL, wk, pos]) (by unfold bH; simp) ?_ rfl trivial ?_
  ·unfold bH k12
   simp [setAll, renB, rens, ren, back, ents_ren, restA_len]
  obtain ⟨q1, q2, d, q3, q4⟩ := round_ok hV hf ht hl hp hround
  have hbg : begC (restA arcs fl (m + 1)) N = begC (restA arcs (pushAll c fl (walk (restA arcs fl (m + 1)) s j0 t)) (m + 1)) N := begC_congr (by rw [restA_len, restA_len]) (fun i hi => restA_from arcs _ _ _ i (by rwa [restA_len] at hi))
  unfold k12
  simp -implicitDefEqProofs only [rX,↓reduceIte,Nat.reduceEqDiff,leE,leH,leB,leV,leVs,keepP,liveP,wfE,wfB,wfV,wfL]
  refine ⟨pushAll c fl (walk (restA arcs fl (m + 1)) s j0 t), ⟨⟨⟨q1, q2⟩, ?_⟩, ?_⟩, ?_⟩
  ·cases hR with
   | stop h => rw [h] at hround; simp at hround
   | go h h2 => rw [h] at hround; simp only [yJ] at hround; rw [← hround]; exact h2
  ·have := q4 f
   rw [if_pos rfl, if_neg (fun h => hft h.symm)] at this
   have hb2 := valTo_bound arcs f (pushAll c fl (walk (restA arcs fl (m + 1)) s j0 t)) (hV.flow q1 q2) arcs.length
   omega
  ·rw [hbg]
   simp -implicitDefEqProofs only [rX,eq_true begC_wf]
 ·have hq := find_not (b := s.1) hin
  simp -implicitDefEqProofs only [rX,↓rY,rdK,ofConst,↓reduceIte,Nat.reduceEqDiff,Nat.reduceAdd,freshP,hq]
  have hrn : round arcs N f t fl = none := by
   unfold round
   rw [hm, hs, if_pos]
   exact Decidable.not_not.1 fun hne => hin (by
    have := (hS.mem t.toNat (by omega)).1 hne
    rwa [yH ht.1] at this)
  have hrr : r = fl := hR.det (.stop hrn)
  subst hrr
  intro hlm
  have hA : ((0 ≤ (arcs.length : Int) ∧ (arcs.length : Int) ≤ arcs.length) ∧ ((8 : Nat) : Int) * (arcs.length : Int) ≤ 281474976710656 ∧ (arcs.length : Int) ≤ 9223372036854775807) := ⟨⟨by omega, by omega⟩, by omega, by omega⟩
  have hB : ((0 ≤ (N : Int) ∧ (N : Int) ≤ N) ∧ ((1 : Nat) : Int) * (N : Int) ≤ 281474976710656 ∧ (N : Int) ≤ 9223372036854775807) := ⟨⟨by omega, by omega⟩, by omega, by omega⟩
  refine ⟨⟨hA, hB, ?_⟩, hB, hA, ?_⟩
  all_goals
   intro hlm2
   refine loopP_intro (pat5 N m arcs (restA arcs r (m + 1)) f t s w r) (fun i => i ≤ r.length) (fun i => r.length - i) 0 (vO _) ?_ (body36e N m arcs f t s w r hm hL hl ?_)
   ·unfold pat5 eH k12
    simp -implicitDefEqProofs only [rX,↓reduceIte,Nat.reduceEqDiff,leE,leH,leB,leV,leVs,keepP,liveP,wfE,wfB,wfV,wfL,leVs,leV,eq_true begC_wf,eq_true ents_wf,hl,yI,uE,Nat.sub_zero]
    exact ⟨rfl, rfl⟩
   intro b y z
   unfold eH k12
   simp only [↓reduceIte]
   simp -implicitDefEqProofs only [rX,↓rY,↓reduceIte,Nat.reduceEqDiff,Nat.reduceAdd,freshP]
   refine loopP_intro (pat6 N m arcs (restA arcs r (m + 1)) f t s w r) (fun _ => True) (left s.2.length) [] trivial ?_ (fun seen _ => body36f N m arcs (restA arcs r (m + 1)) f t s w r hS ?_ seen)
   ·unfold pat6 eH k12
    simp -implicitDefEqProofs only [rX,↓reduceIte,Nat.reduceEqDiff,leE,leH,leB,leV,leVs,keepP,liveP,wfE,wfB,wfV,wfL,leVs,leV,eq_true begC_wf,eq_true ents_wf,cutS_nil]
   intro b2 sn x2 y2
   unfold eH k12 res36
   simp only [↓reduceIte]
   simp -implicitDefEqProofs only [rX,↓reduceIte,Nat.reduceEqDiff,Nat.reduceAdd,resP,tupV,leH,leB,keepP,liveP,wfB,wfV,wfL,Nat.reduceLeDiff,retP_isA,cutOf,hm,hs,hl]
end Go.Fx.P.F
namespace Go.Fx.P.F
open Go Go.Fx Go.Proofs
set_option maxRecDepth 20000
theorem ok59 (N m : Nat) (arcs : List Arc) (f t : Int) (r : List Int) (hm : arcs.length = m + 1) (hV : Val N arcs) (hf : 0 ≤ f ∧ f < N) (ht : 0 ≤ t ∧ t < N) (hft : f ≠ t) (hr : Run arcs N f t (yC arcs.length 0) r) : Ok 59 [net N arcs, .i f, .i t] (res36 N arcs f r) := by
 have hL := hV.hl
 have hN := hV.hn
 refine ok_of lw59 (by simp) ?_
 unfold c59
 simp -implicitDefEqProofs only [rX,↓rY,rdK,ofConst,cells?,↓reduceIte,Nat.reduceEqDiff,Nat.reduceAdd,reduceCtorEq,freshP,cxN,args0,net]
 intro hlm
 have hz : yC arcs.length [V.v (.int .i64 0)] = (yC arcs.length (0 : Int)).map encI := by rw [uE]; rfl
 have hpz : possP arcs (yC arcs.length 0) := fun i h1 h2 => by
  have := (hV.ha arcs[i] (yD h2)).2
  simp; omega
 have e1 := ok83 N arcs (yC arcs.length 0) hV (by simp) hpz
 rw [hz]
 have hlz : (yC arcs.length (0 : Int)).length = arcs.length := by simp
 clear hz
 generalize yC arcs.length (0 : Int) = zs at *
 have hRl : (restA arcs zs (m + 1)).length = 2 * (m + 1) := restA_len _ _ _
 have hF : ∀ i, i < (restA arcs zs (m + 1)).length → 0 ≤ (gA (restA arcs zs (m + 1)) i).from_ ∧ (gA (restA arcs zs (m + 1)) i).from_ < N := by
  intro i hi
  rw [hRl] at hi
  have hq : i / 2 < arcs.length := by omega
  have := hV.ha arcs[i / 2] (yD hq)
  by_cases hp : i % 2 = 0
  ·rw [show i = 2 * (i / 2) by omega, restA_even arcs zs _ _ (by omega), getD_nil (a := ⟨0,0,0,0⟩) hq]
   exact this.1.1
  ·rw [show i = 2 * (i / 2) + 1 by omega, restA_odd arcs zs _ _ (by omega), getD_nil (a := ⟨0,0,0,0⟩) hq]
   exact this.1.2.1
 rw [hm] at e1
 have htk : yS arcs.length (vB encI zs) = vB encI zs := vI (by simp [hlz])
 have hb : ((0 ≤ (arcs.length : Int) ∧ (arcs.length : Int) ≤ arcs.length) ∧ ((8 : Nat) : Int) * (arcs.length : Int) ≤ 281474976710656 ∧ (arcs.length : Int) ≤ 9223372036854775807) := ⟨⟨by omega, by omega⟩, by omega, by omega⟩
 refine ⟨⟨hb, ?_, ?_⟩, hb, ?_⟩
 all_goals
  refine call_isA [net N arcs, bli zs] _ (.agg [.i N, .sl 10 0 (2 * (m + 1))]) _ [.dead, .dead, .dead, .dead, .dead, .arr 4 (restTo arcs zs (m + 1))] e1 ?_ rfl rfl ?_
  ·simp [net, li, bli, lendsOk, lendOk, lends, lend, wkL, wk, wkB, wkR, blk, htk, hlz]
  simp -implicitDefEqProofs only [rX,↓rY,ofConst,cells?,splice,↓reduceIte,Nat.reduceEqDiff,Nat.reduceAdd,freshP,isC]
  refine ⟨⟨⟨by omega, by omega⟩, by omega, by omega⟩, fun hlm2 => ?_⟩
  refine loopP_intro (pat1 N m arcs (restA arcs zs (m + 1)) f t) (fun g => g.1 ≤ 2 * (m + 1) ∧ Beg (restA arcs zs (m + 1)) N g.1 g.2.1 g.2.2) (fun g => 2 * (m + 1) - g.1) (0, yC N V.nil, []) ⟨vO _, Beg.zero⟩ ?_ (body36a N m arcs (restA arcs zs (m + 1)) f t (by omega) hRl hF ?_)
  ·unfold pat1 k12
   simp -implicitDefEqProofs only [rX,↓reduceIte,Nat.reduceEqDiff,leE,leH,leB,leV,leVs,keepP,liveP,wfE,wfB,wfV,wfL,leVs,leV,yI,uE,restA_enc]
   refine wfL_all fun x hx => ?_
   rw [uA] at hx
   obtain ⟨l, h1, h2⟩ := hx
   rw [List.mem_replicate] at h1
   rw [h1.2, yT] at h2
   rw [h2]; trivial
  intro cs bs b y hB
  unfold pat1 k12
  simp only [↓reduceIte]
  simp -implicitDefEqProofs only [rX]
  refine loopP_give (fun k => decide (12 ≤ k)) (pat2 N m arcs f t) (fun fl => (fl.length = arcs.length ∧ possP arcs fl) ∧ Run arcs N f t fl r) (fun fl => ((arcs.length : Int) * 1073741824 - valTo arcs f fl arcs.length).toNat) zs (by simp) ⟨⟨hlz, hpz⟩, hr⟩ ?_ (body36b N m arcs f t r hm hV hf ht hft)
  unfold pat2 k12 St.give
  have hg := @Beg.given _ _ _ _ (show Beg (restA arcs zs (m + 1)) N (restA arcs zs (m + 1)).length cs bs by rw [hRl]; exact hB)
  simp -implicitDefEqProofs only [rX,↓reduceIte,Nat.reduceEqDiff,Nat.reduceAdd,leE,leH,leB,leV,leVs,keepP,liveP,wfE,wfB,wfV,wfL,Nat.reduceLeDiff,gvE,gvV,gvH,gvB,gvL,hg,decide_false,eq_true begC_wf]
end Go.Fx.P.F
namespace Go.Fx.P.F
open Go Go.Fx Go.Proofs
set_option maxRecDepth 20000
theorem bfs_none {N : Nat} {f : Int} : ∀ h, bfsTo [] N f h = ((yC N (-2)).set f.toNat (-1), [f])
 | 0 => rfl
 | h + 1 => by
  unfold bfsTo
  rw [bfs_none h]
  split <;> rfl
def zH (N : Nat) (f t : Int) (q : List Blk) : List Blk := .var [.i N, .ro 4 []] :: .var [.i f] :: .var [.i t] :: .dead :: .var [.i N, .nil] :: .arv 1 (yC N [V.nil]) :: q
theorem nils_wf {h : List Blk} {N : Nat} : wfL h (yC N [V.nil]).flatten := by
 refine wfL_all fun x hx => ?_
 rw [uA] at hx
 obtain ⟨l, h1, h2⟩ := hx
 rw [List.mem_replicate] at h1
 rw [h1.2, yT] at h2
 rw [h2]; trivial
theorem ok59z (N : Nat) (f t : Int) (hV : Val N []) (hf : 0 ≤ f ∧ f < N) (ht : 0 ≤ t ∧ t < N) (hft : f ≠ t) : Ok 59 [net N [], .i f, .i t]
  (IsA (.tup [.sl 9 0 0, .sl 10 0 N]) [.dead, .dead, .dead, .dead, .dead, .dead, .dead, .dead, .dead, .arr 1 [], .arr 1 ((cutOf [] N f []).map encB)]) := by
 have hN := hV.hn
 have hS : Srch [] N f (srch [] N f) := Srch.bfs hf (fun i h => by simp at h) N
 have hs : srch [] N f = ((yC N (-2)).set f.toNat (-1), [f]) := bfs_none N
 have e1 := ok83 N [] [] hV rfl (fun i h1 h2 => by simp at h1)
 have hes : ents ((yC N (-2 : Int)).set f.toNat (-1)) [f] = [(.int .i64 f, V.i (-1), 0)] := by
  have h0 : f.toNat < (yC N (-2 : Int)).length := by simp; omega
  have h1 : ((yC N (-2 : Int)).set f.toNat (-1)).getD f.toNat 0 = -1 := by rw [getD_set h0]; simp
  show [ent1 _ (f, 0)] = _
  simp only [ent1]
  rw [h1]
 refine ok_of lw59 (by simp) ?_
 unfold c59
 simp -implicitDefEqProofs only [rX,↓rY,rdK,ofConst,cells?,↓reduceIte,Nat.reduceEqDiff,Nat.reduceAdd,reduceCtorEq,freshP,cxN,args0,net,yI,uK]
 intro hlm
 refine ⟨⟨⟨by omega, by omega⟩, ?_, ?_⟩, ⟨by omega, by omega⟩, ?_⟩
 all_goals
  refine call_isA [net N [], bli []] _ (.agg [.i N, .nil]) _ [] e1 ?_ rfl rfl ?_
  ·simp [net, li, bli, lendsOk, lendOk, lends, lend, wkL, wk, wkB, wkR, blk]
  simp -implicitDefEqProofs only [rX,↓rY,ofConst,cells?,splice,↓reduceIte,Nat.reduceEqDiff,Nat.reduceAdd,freshP,isC]
  refine ⟨⟨by omega, by omega⟩, ?_⟩
  have hdf : decide ((0 : Int) < 0) = false := rfl
  refine loopP_intro (fun _ : Unit => ⟨[(40, .i 0), (39, .i 0), (9, .sl 5 0 N), (8, .ptr 4 0 0), (5, .ptr 2 0 0), (4, .ptr 1 0 0), (3, .ptr 0 0 0)], zH N f t [], 0⟩) (fun _ => True) (fun _ => 0) () trivial ?_ ?_
  ·unfold zH
   simp -implicitDefEqProofs only [rX,↓reduceIte,Nat.reduceEqDiff,leE,leH,leB,leV,leVs,keepP,liveP,wfE,wfB,wfV,wfL,leVs,leV,eq_true nils_wf]
  rintro ⟨⟩ -
  unfold c59l0 zH
  simp -implicitDefEqProofs only [rX,↓rY,↓reduceIte,Nat.reduceEqDiff,Nat.reduceAdd,Nat.reduceLT,hdf]
  refine loopP_intro (fun _ : Unit => ⟨[(9, .sl 5 0 N), (8, .ptr 4 0 0), (5, .ptr 2 0 0), (4, .ptr 1 0 0), (3, .ptr 0 0 0)], zH N f t [], 0⟩) (fun _ => True) (fun _ => 0) () trivial ?_ ?_
  ·unfold zH
   simp -implicitDefEqProofs only [rX,↓reduceIte,Nat.reduceEqDiff,leE,leH,leB,leV,leVs,keepP,liveP,wfE,wfB,wfV,wfL,leVs,leV,eq_true nils_wf]
  rintro ⟨⟩ -
  unfold c59l1 zH
  simp -implicitDefEqProofs only [rX,↓rY,ofConst,cells?,splice,↓reduceIte,Nat.reduceEqDiff,Nat.reduceAdd,freshP,litsP,isD,isC,Nat.reduceLT]
  refine loopP_intro (fun n : Nat => ⟨[(13, .sl 8 (1 - n) n), (12, .ptr 7 0 0), (9, .sl 5 0 N), (8, .ptr 4 0 0), (5, .ptr 2 0 0), (4, .ptr 1 0 0), (3, .ptr 0 0 0)], zH N f t [.map [(.int .i64 f, .i (-1), 0)] 1, .var [.mp 6], .arr 1 [[.i f]]], 0⟩) (fun n => n ≤ 1) (fun n => n) 1 (yE _) ?_ ?_
  ·unfold zH
   simp -implicitDefEqProofs only [rX,↓reduceIte,Nat.reduceEqDiff,leE,leH,leB,leV,leVs,keepP,liveP,wfE,wfB,wfV,wfL,leVs,leV,eq_true nils_wf,Nat.sub_self]
  intro n hn
  unfold c59l2 zH
  simp -implicitDefEqProofs only [rX,↓rY,rdK,ofConst,cells?,splice,↓reduceIte,Nat.reduceEqDiff,arrSz,Nat.reduceAdd,freshP,slcOk,isC]
  intro hmx
  simp only [br, decide_eq_true_eq, decide_eq_false_iff_not]
  refine ⟨fun h => ?_, fun h => ?_⟩
  ·have : n = 1 := by omega
   subst this
   have h10 : yO 1 = 1 := rfl
   have h00 : yO 0 = 0 := rfl
   simp -implicitDefEqProofs only [rX,Nat.reduceLT,Nat.sub_self,h00,h10]
   refine ⟨by omega, by simp, ?_⟩
   simp -implicitDefEqProofs only [rX,↓rY,xA]
   refine ⟨⟨⟨by omega, by omega⟩, by omega⟩, hf, by omega, ?_⟩
   refine loopP_intro (fun _ : Unit => ⟨[(76, .i 0), (75, .i 0), (13, .sl 8 1 0), (12, .ptr 7 0 0), (9, .sl 5 0 N), (8, .ptr 4 0 0), (5, .ptr 2 0 0), (4, .ptr 1 0 0), (3, .ptr 0 0 0)], zH N f t [.map [(.int .i64 f, .i (-1), 0)] 1, .var [.mp 6], .arr 1 [[.i f]]], 0⟩) (fun _ => True) (fun _ => 0) () trivial ?_ ?_
   ·unfold zH
    simp -implicitDefEqProofs only [rX,↓reduceIte,Nat.reduceEqDiff,leE,leH,leB,leV,leVs,keepP,liveP,wfE,wfB,wfV,wfL,leVs,leV,eq_true nils_wf]
   rintro ⟨⟩ -
   unfold c59l3 zH
   simp -implicitDefEqProofs only [rX,↓rY,↓reduceIte,Nat.reduceEqDiff,Nat.reduceAdd,leE,leH,leB,leV,leVs,keepP,liveP,wfE,wfB,wfV,wfL,Nat.reduceLT,hdf]
   exact ⟨0, ⟨by omega, by omega⟩, rfl, nils_wf⟩
  ·have : n = 0 := by omega
   subst this
   have hmf : mfind (.int .i64) (.int .i64 t) [(.int .i64 f, V.i (-1), 0)] 0 = some none := by
    rw [← hes]; exact find_not (by simp; exact fun h => hft h.symm)
   simp -implicitDefEqProofs only [rX,↓rY,ofConst,reduceCtorEq,hmf]
   refine ⟨fun _ _ => ?_, fun h => h.elim⟩
   have hA : ((0 ≤ ((0 : Nat) : Int) ∧ ((0 : Nat) : Int) ≤ ((0 : Nat) : Int)) ∧ ((8 : Nat) : Int) * ((0 : Nat) : Int) ≤ 281474976710656 ∧ ((0 : Nat) : Int) ≤ 9223372036854775807) := ⟨⟨by omega, by omega⟩, by omega, by omega⟩
   have hB : ((0 ≤ (N : Int) ∧ (N : Int) ≤ N) ∧ ((1 : Nat) : Int) * (N : Int) ≤ 281474976710656 ∧ (N : Int) ≤ 9223372036854775807) := ⟨⟨by omega, by omega⟩, by omega, by omega⟩
   refine ⟨⟨hA, hB, ?_⟩, hB, hA, ?_⟩
   all_goals
    intro _
    refine loopP_intro (fun _ : Unit => ⟨[(126, .i 0), (125, .i 0), (23, .sl 10 0 N), (22, .sl 9 0 0), (12, .ptr 7 0 0)], zH N f t [.map (ents ((yC N (-2)).set f.toNat (-1)) [f]) 1, .var [.mp 6], .dead, .arr 1 [], .arr 1 ((cutS N [f] []).map encB)], 0⟩) (fun _ => True) (fun _ => 0) () trivial ?_ ?_
    ·unfold zH
     simp -implicitDefEqProofs only [rX,↓reduceIte,Nat.reduceEqDiff,leE,leH,leB,leV,leVs,keepP,liveP,wfE,wfB,wfV,wfL,leVs,leV,eq_true nils_wf,hes,cutS_nil,uE]
     exact ⟨rfl, rfl⟩
    rintro ⟨⟩ -
    unfold c59l4 zH
    simp -implicitDefEqProofs only [rX,↓rY,↓reduceIte,Nat.reduceEqDiff,Nat.reduceAdd,freshP,Nat.reduceLT,hdf]
    refine loopP_intro (fun seen : List Nat => ⟨[(142, .ptr 11 0 0), (23, .sl 10 0 N), (22, .sl 9 0 0)], zH N f t [.map (ents ((yC N (-2)).set f.toNat (-1)) [f]) 1, .var [.mp 6], .dead, .arr 1 [], .arr 1 ((cutS N [f] seen).map encB), .it (.mp 6) 1 seen 1], 0⟩) (fun _ => True) (left 1) [] trivial ?_ ?_
    ·unfold zH
     simp -implicitDefEqProofs only [rX,↓reduceIte,Nat.reduceEqDiff,leE,leH,leB,leV,leVs,keepP,liveP,wfE,wfB,wfV,wfL,leVs,leV,eq_true nils_wf,eq_true ents_wf]
    intro seen _
    unfold c59l5 zH
    simp -implicitDefEqProofs only [rX,↓rY,rZ,ofConst,cells?,splice,↓reduceIte,Nat.reduceEqDiff,arrSz,Nat.reduceAdd,leE,leH,leB,leV,leVs,keepP,liveP,wfE,wfB,wfV,wfL,isD,isC]
    refine ⟨⟨ents_born, yE _⟩, fun hall => ?_, fun e he hne => ?_⟩
    ·have hcut : cutS N [f] seen = cutOf [] N f [] := by
      have := cutS_all hS (seen := seen) fun j hj => by
       obtain ⟨e, h1, h2⟩ := ents_at (b := (srch [] N f).1) hj
       rw [hs] at h1
       have := vR.1 hall e h1
       rw [h2] at this
       simpa using this
      rw [hs] at this
      rw [this]
      unfold cutOf
      show _ = cutK N (srch [] N f).1 N
      rw [hs]
     rw [hcut]
     simp -implicitDefEqProofs only [rX,↓reduceIte,Nat.reduceEqDiff,Nat.reduceAdd,resP,tupV,leH,leB,keepP,liveP,wfB,wfV,wfL,Nat.reduceLeDiff,retP_isA]
    ·obtain ⟨v, h1, h2⟩ := ents_mem he
     have hv : v = f := by
      have := yF h1
      simpa using this
     have hj := (yN.1 h1).1
     have hfind := ents_find he
     rw [xB]
     simp -implicitDefEqProofs only [rX,↓rY,hfind]
     rw [h2]
     simp -implicitDefEqProofs only [rX,eq_true nils_wf,eq_true ents_wf]
     refine ⟨by rw [hv]; exact hf, by rw [hv]; simp [cutS]; omega, seen ++ [e.2.2], left_less hj hne, ?_, rfl⟩
     rw [show [V.v (Value.bool true)] = encB true from rfl, ← vA, cutS_add (by simp) h1 (by rw [hv]; exact hf.1)]
end Go.Fx.P.F
namespace Go.Fx.P.F
open Go Go.Fx Go.Proofs
set_option maxRecDepth 20000
theorem ok_give {f : FuncId} {xs : List V} {x y : V} {hs : List Blk} (h : Ok f xs (IsA x hs)) (hy : wk y (gvV (fun _ => true) hs x)) : Ok f xs (Is y) :=
 ⟨h.1, Fn_give h.2 (by rintro r h' ⟨rfl, rfl⟩; exact hy)⟩
theorem run_nil {N : Nat} {f t : Int} {r : List Int} (hft : f ≠ t) (hf : 0 ≤ f ∧ f < N) (ht : 0 ≤ t ∧ t < N) (h : Run [] N f t [] r) : r = [] := by
 have : round [] N f t [] = none := by
  unfold round
  rw [if_pos]
  show (srch [] N f).1.getD t.toNat 0 = -2
  rw [show srch [] N f = _ from bfs_none N]
  have h0 : f.toNat < (yC N (-2 : Int)).length := by simp; omega
  rw [getD_set h0, if_neg (by omega)]
  rw [yA, vT, if_pos (by omega)]
  rfl
 exact h.det (.stop this)
theorem ok59d (N : Nat) (arcs : List Arc) (f t : Int) (r : List Int) (hV : Val N arcs) (hf : 0 ≤ f ∧ f < N) (ht : 0 ≤ t ∧ t < N) (hft : f ≠ t) (hr : Run arcs N f t (yC arcs.length 0) r) (hl : r.length = arcs.length) :
  Ok 59 [net N arcs, .i f, .i t] (Is (.tup [li r, lb (cutOf arcs N f r)])) := by
 cases arcs with
 | nil =>
  have := run_nil hft hf ht hr
  subst this
  refine ok_give (ok59z N f t hV hf ht hft) ?_
  have e1 : yS N ((cutOf [] N f []).map encB) = (cutOf [] N f []).map encB := vI (by simp [cutOf, cutK_len])
  simp [gvV, gvL, blk, wk, wkL, wkR, li, lb, e1]
  simp [cutOf, cutK_len, wk, wkR]
 | cons a l =>
  refine ok_give (ok59 N l.length (a :: l) f t r rfl hV hf ht hft hr) ?_
  have e1 : yS N ((cutOf (a :: l) N f r).map encB) = (cutOf (a :: l) N f r).map encB := vI (by simp [cutOf, cutK_len])
  have e2 : yS (a :: l).length (r.map encI) = r.map encI := vI (by simp [hl])
  simp only [gvV, gvL, blk, yA, lg0, lg1, lg2, lg3, lg4, lg5, lg6, lg7, lg8, lg9, wW, jb, jg, jl, jq, jx, jC, uC, yL, if_true, List.drop_zero, e1, e2, Nat.zero_add]
  simp [wk, wkL, wkR, li, lb, hl, cutOf, cutK_len]
theorem cutOf_len {arcs : List Arc} {N : Nat} {f : Int} {fl : List Int} : (cutOf arcs N f fl).length = N := cutK_len
theorem ok36d (N : Nat) (arcs : List Arc) (f t : Int) (r : List Int) (hV : Val N arcs) (he : endsB N f t = true) (hr : Run arcs N f t (yC arcs.length 0) r) (hl : r.length = arcs.length) :
  Ok 36 [net N arcs, .i f, .i t] (Is (.tup [li r, lb (cutOf arcs N f r), .i 0])) := by
 have hE : (0 ≤ f ∧ f < N) ∧ (0 ≤ t ∧ t < N) ∧ f ≠ t := by simpa [endsB] using he
 refine ok_of lw36 (by simp) ?_
 unfold c36
 simp -implicitDefEqProofs only [rX,↓rY,ofConst,cells?,↓reduceIte,Nat.reduceEqDiff,Nat.reduceAdd,reduceCtorEq,freshP,cxN,args0,net]
 refine call_is (ok58 N arcs f t) ?_ rfl ?_
 ·simp [net, lendsOk, lendOk, lends, lend, wkL, wk, wkB, wkR, pos]
 simp -implicitDefEqProofs only [rX,↓rY,↓reduceIte,Nat.reduceEqDiff,Nat.reduceAdd,reduceCtorEq,he]
 refine call_is (ok59d N arcs f t r hV hE.1 hE.2.1 hE.2.2 hr hl) ?_ rfl ?_
 ·simp [net, lendsOk, lendOk, lends, lend, wkL, wk, wkB, wkR, pos]
 simp -implicitDefEqProofs only [rX,↓rY,ofConst,↓reduceIte,Nat.reduceEqDiff,resP,tupV,wfV,wfL,li,lb]
theorem Run.keep {N : Nat} {arcs : List Arc} (hV : Val N arcs) {f t : Int} (hf : 0 ≤ f ∧ f < N) (ht : 0 ≤ t ∧ t < N) {fl r : List Int} (h : Run arcs N f t fl r) :
  fl.length = arcs.length → possP arcs fl → r.length = arcs.length ∧ possP arcs r ∧ round arcs N f t r = none ∧ ∃ d, 0 ≤ d ∧ ∀ x, valTo arcs x r arcs.length = valTo arcs x fl arcs.length + (if f = x then d else 0) - (if t = x then d else 0) := by
 induction h with
 | stop h => exact fun h1 h2 => ⟨h1, h2, h, 0, vK _, fun x => by split <;> split <;> omega⟩
 | go h _ ih =>
  intro h1 h2
  obtain ⟨q1, q2, d, q3, q4⟩ := round_ok hV hf ht h1 h2 h
  obtain ⟨p1, p2, p3, d', p4, p5⟩ := ih q1 q2
  refine ⟨p1, p2, p3, d + d', by omega, fun x => ?_⟩
  rw [p5, q4]
  split <;> split <;> omega
theorem zero_val (arcs : List Arc) (x : Int) (n : Nat) : ∀ k, valTo arcs x (yC n 0) k = 0
 | 0 => rfl
 | k + 1 => by
  have : (yC n (0 : Int)).getD k 0 = 0 := by
   rw [yA, vT]
   split <;> rfl
  simp only [valTo, zero_val arcs x n k, this]
  split <;> split <;> rfl
theorem zero_poss {N : Nat} {arcs : List Arc} (hV : Val N arcs) : possP arcs (yC arcs.length 0) := fun i h1 h2 => by
 have := (hV.ha arcs[i] (yD h2)).2
 simp; omega
structure Grt (N : Nat) (arcs : List Arc) (f t : Int) (r : List Int) : Prop where
 run : Run arcs N f t (yC arcs.length 0) r
 len : r.length = arcs.length
 pos : possP arcs r
 stop : round arcs N f t r = none
 val : ∃ d, 0 ≤ d ∧ ∀ x, valTo arcs x r arcs.length = (if f = x then d else 0) - (if t = x then d else 0)
theorem grt {N : Nat} {arcs : List Arc} (hV : Val N arcs) {f t : Int} (hE : (0 ≤ f ∧ f < N) ∧ (0 ≤ t ∧ t < N) ∧ f ≠ t) : ∃ r, Grt N arcs f t r := by
 obtain ⟨r, hr⟩ := run_ends hV hE.1 hE.2.1 hE.2.2 (((arcs.length : Int) * 1073741824 - valTo arcs f (yC arcs.length 0) arcs.length).toNat) (yC arcs.length 0) (by simp) (zero_poss hV) (by omega)
 obtain ⟨h1, h2, h3, d, h4, h5⟩ := hr.keep hV hE.1 hE.2.1 (by simp) (zero_poss hV)
 exact ⟨r, hr, h1, h2, h3, d, h4, fun x => by rw [h5, zero_val]; omega⟩
end Go.Fx.P.F
namespace Go.Fx.P.F
open Go Go.Fx Go.Proofs
def arcIn (arcs : List Arc) (cut : List Bool) (fl : List Int) (k : Nat) : Int :=
 (if cut.getD (gA arcs k).from_.toNat false = true then fl.getD k 0 else 0) - (if cut.getD (gA arcs k).to.toNat false = true then fl.getD k 0 else 0)
def sumC (arcs : List Arc) (cut : List Bool) (fl : List Int) : Nat → Int
 | 0 => 0
 | k + 1 => sumC arcs cut fl k + arcIn arcs cut fl k
def sumN (arcs : List Arc) (cut : List Bool) (fl : List Int) (k : Nat) : Nat → Int
 | 0 => 0
 | v + 1 => sumN arcs cut fl k v + (if cut.getD v false = true then valTo arcs v fl k else 0)
theorem sumN_zero (arcs : List Arc) (cut : List Bool) (fl : List Int) : ∀ n, sumN arcs cut fl 0 n = 0
 | 0 => rfl
 | n + 1 => by simp [sumN, sumN_zero arcs cut fl n, valTo]
theorem sumN_step (arcs : List Arc) (cut : List Bool) (fl : List Int) (k : Nat) (h1 : 0 ≤ (gA arcs k).from_) (h2 : 0 ≤ (gA arcs k).to) : ∀ n, sumN arcs cut fl (k + 1) n = sumN arcs cut fl k n
  + (if (gA arcs k).from_ < n then (if cut.getD (gA arcs k).from_.toNat false = true then fl.getD k 0 else 0) else 0) - (if (gA arcs k).to < n then (if cut.getD (gA arcs k).to.toNat false = true then fl.getD k 0 else 0) else 0)
 | 0 => by
  simp only [sumN]
  rw [if_neg (by omega), if_neg (by omega)]; omega
 | n + 1 => by
  have ih := sumN_step arcs cut fl k h1 h2 n
  have hv : valTo arcs n fl (k + 1) = valTo arcs n fl k + (if (gA arcs k).from_ = n then fl.getD k 0 else 0) - (if (gA arcs k).to = n then fl.getD k 0 else 0) := rfl
  simp only [sumN, ih, hv]
  by_cases e1 : (gA arcs k).from_ = n
  ·have t1 : (gA arcs k).from_.toNat = n := by omega
   rw [t1, if_neg (by omega), if_pos (show (gA arcs k).from_ < ((n + 1 : Nat) : Int) by omega), if_pos e1]
   by_cases e2 : (gA arcs k).to = n
   ·have t2 : (gA arcs k).to.toNat = n := by omega
    rw [t2, if_neg (by omega), if_pos (show (gA arcs k).to < ((n + 1 : Nat) : Int) by omega), if_pos e2]
    split <;> omega
   ·rw [if_neg e2]
    by_cases e3 : (gA arcs k).to < n
    ·rw [if_pos e3, if_pos (show (gA arcs k).to < ((n + 1 : Nat) : Int) by omega)]
     by_cases e4 : cut.getD n false = true
     ·rw [if_pos e4, if_pos e4, if_pos e4]; omega
     ·rw [if_neg e4, if_neg e4, if_neg e4]; omega
    ·rw [if_neg e3, if_neg (show ¬ (gA arcs k).to < ((n + 1 : Nat) : Int) by omega)]
     by_cases e4 : cut.getD n false = true
     ·rw [if_pos e4, if_pos e4, if_pos e4]; omega
     ·rw [if_neg e4, if_neg e4, if_neg e4]; omega
  ·rw [if_neg e1]
   have c1 : (if (gA arcs k).from_ < ((n + 1 : Nat) : Int) then (if cut.getD (gA arcs k).from_.toNat false = true then fl.getD k 0 else 0) else 0) = (if (gA arcs k).from_ < (n : Int) then (if cut.getD (gA arcs k).from_.toNat false = true then fl.getD k 0 else 0) else 0) := by
    by_cases e3 : (gA arcs k).from_ < n
    ·rw [if_pos e3, if_pos (by omega)]
    ·rw [if_neg e3, if_neg (by omega)]
   rw [c1]
   by_cases e2 : (gA arcs k).to = n
   ·have t2 : (gA arcs k).to.toNat = n := by omega
    rw [t2, if_neg (show ¬ (gA arcs k).to < (n : Int) by omega), if_pos (show (gA arcs k).to < ((n + 1 : Nat) : Int) by omega), if_pos e2]
    by_cases e4 : cut.getD n false = true
    ·rw [if_pos e4, if_pos e4, if_pos e4]; omega
    ·rw [if_neg e4, if_neg e4, if_neg e4]; omega
   ·rw [if_neg e2]
    have c2 : (if (gA arcs k).to < ((n + 1 : Nat) : Int) then (if cut.getD (gA arcs k).to.toNat false = true then fl.getD k 0 else 0) else 0) = (if (gA arcs k).to < (n : Int) then (if cut.getD (gA arcs k).to.toNat false = true then fl.getD k 0 else 0) else 0) := by
     by_cases e3 : (gA arcs k).to < n
     ·rw [if_pos e3, if_pos (by omega)]
     ·rw [if_neg e3, if_neg (by omega)]
    rw [c2]
    by_cases e4 : cut.getD n false = true
    ·rw [if_pos e4, if_pos e4]; omega
    ·rw [if_neg e4, if_neg e4]; omega
theorem val_in {N : Nat} {arcs : List Arc} (hV : Val N arcs) {k : Nat} (hk : k < arcs.length) : (0 ≤ (gA arcs k).from_ ∧ (gA arcs k).from_ < N) ∧ (0 ≤ (gA arcs k).to ∧ (gA arcs k).to < N) := by
 rw [getD_nil (a := ⟨0,0,0,0⟩) hk]
 have := hV.ha arcs[k] (yD hk)
 exact ⟨this.1.1, this.1.2.1⟩
theorem sumN_all {N : Nat} {arcs : List Arc} (hV : Val N arcs) (cut : List Bool) (fl : List Int) : ∀ k, k ≤ arcs.length → sumN arcs cut fl k N = sumC arcs cut fl k
 | 0, _ => sumN_zero arcs cut fl N
 | k + 1, hk => by
  have := val_in hV (show k < arcs.length by omega)
  rw [sumN_step arcs cut fl k this.1.1 this.2.1, sumN_all hV cut fl k (by omega), if_pos this.1.2, if_pos this.2.2]
  simp only [sumC, arcIn]; omega
theorem sumN_flow (arcs : List Arc) (cut : List Bool) (fl : List Int) (k : Nat) {f t : Int} (hf : 0 ≤ f) (hcf : cut.getD f.toNat false = true) (hct : cut.getD t.toNat false = false) (N : Nat)
  (h0 : ∀ j : Int, 0 ≤ j → j < N → j ≠ f → j ≠ t → valTo arcs j fl k = 0) : ∀ n, n ≤ N → sumN arcs cut fl k n = if f < n then valTo arcs f fl k else 0
 | 0, _ => by rw [if_neg (by omega)]; rfl
 | n + 1, hn => by
  have ih := sumN_flow arcs cut fl k hf hcf hct N h0 n (by omega)
  simp only [sumN, ih]
  by_cases e1 : (n : Int) = f
  ·have t1 : f.toNat = n := by omega
   rw [t1] at hcf
   rw [if_neg (by omega), if_pos hcf, if_pos (by omega), e1]; omega
  ·have c1 : (if f < ((n + 1 : Nat) : Int) then valTo arcs f fl k else 0) = (if f < (n : Int) then valTo arcs f fl k else 0) := by
    by_cases e3 : f < n
    ·rw [if_pos e3, if_pos (by omega)]
    ·rw [if_neg e3, if_neg (by omega)]
   rw [c1]
   by_cases e2 : (n : Int) = t
   ·have t1 : t.toNat = n := by omega
    rw [t1] at hct
    rw [if_neg (show ¬ cut.getD n false = true by rw [hct]; simp)]; omega
   ·rw [h0 n (by omega) (by omega) e1 e2]
    split <;> omega
theorem sumC_le {arcs : List Arc} (cut : List Bool) {fl : List Int} (hp : ∀ q, q < arcs.length → 0 ≤ fl.getD q 0 ∧ fl.getD q 0 ≤ (gA arcs q).cap) : ∀ k, k ≤ arcs.length → sumC arcs cut fl k ≤ cutTo arcs cut k
 | 0, _ => vK _
 | k + 1, hk => by
  have ih := sumC_le cut hp k (by omega)
  have := hp k (by omega)
  have hc : cutTo arcs cut (k + 1) = cutTo arcs cut k + (if cut.getD (gA arcs k).from_.toNat false = true ∧ cut.getD (gA arcs k).to.toNat false = false then (gA arcs k).cap else 0) := rfl
  rw [hc]
  simp only [sumC, arcIn]
  clear hc
  generalize cut.getD (gA arcs k).from_.toNat false = a
  generalize cut.getD (gA arcs k).to.toNat false = b
  generalize fl.getD k 0 = x at *
  cases a <;> cases b <;> simp <;> omega
theorem sumC_eq {arcs : List Arc} (cut : List Bool) {fl : List Int} (h1 : ∀ q, q < arcs.length → cut.getD (gA arcs q).from_.toNat false = true → cut.getD (gA arcs q).to.toNat false = false → fl.getD q 0 = (gA arcs q).cap)
  (h2 : ∀ q, q < arcs.length → cut.getD (gA arcs q).from_.toNat false = false → cut.getD (gA arcs q).to.toNat false = true → fl.getD q 0 = 0) : ∀ k, k ≤ arcs.length → sumC arcs cut fl k = cutTo arcs cut k
 | 0, _ => rfl
 | k + 1, hk => by
  have ih := sumC_eq cut h1 h2 k (by omega)
  have g1 := h1 k (by omega)
  have g2 := h2 k (by omega)
  have hc : cutTo arcs cut (k + 1) = cutTo arcs cut k + (if cut.getD (gA arcs k).from_.toNat false = true ∧ cut.getD (gA arcs k).to.toNat false = false then (gA arcs k).cap else 0) := rfl
  rw [hc]
  simp only [sumC, arcIn, ih]
  clear hc
  generalize cut.getD (gA arcs k).from_.toNat false = a at *
  generalize cut.getD (gA arcs k).to.toNat false = b at *
  generalize fl.getD k 0 = x at *
  cases a <;> cases b <;> simp at * <;> omega
theorem weak {N : Nat} {arcs : List Arc} (hV : Val N arcs) {f t : Int} (hf : 0 ≤ f ∧ f < N) {cut : List Bool} {fl : List Int} (hl : fl.length = arcs.length) (hp : possP arcs fl) (hcf : cut.getD f.toNat false = true) (hct : cut.getD t.toNat false = false)
  (h0 : ∀ j : Int, 0 ≤ j → j < N → j ≠ f → j ≠ t → valTo arcs j fl arcs.length = 0) : valTo arcs f fl arcs.length ≤ cutTo arcs cut arcs.length := by
 have e1 := sumN_flow arcs cut fl arcs.length hf.1 hcf hct N h0 N (yE _)
 rw [if_pos hf.2, sumN_all hV cut fl _ (yE _)] at e1
 rw [← e1]
 exact sumC_le cut ((poss_iff hl).1 hp) _ (yE _)
theorem scan_closed {R : List Arc} {N : Nat} {f k : Int} {s : List Int × List Int} (hf : 0 ≤ f ∧ f < N) (hR : ∀ i, i < R.length → (0 ≤ (gA R i).to ∧ (gA R i).to < N)) (h : Srch R N f s) (hk : k ∈ s.2) :
  ∀ i, i ≤ R.length → ∀ q, q < i → (gA R q).from_ = k → 0 < (gA R q).cap → (gA R q).to ∈ (scanTo R k s i).2
 | 0, _, q, hq, _, _ => by omega
 | i + 1, hi, q, hq, hfr, hc => by
  obtain ⟨h1, h2, h3⟩ := Srch.scan hf hR h hk i (by omega)
  have hto := hR q (by omega)
  unfold scanTo
  by_cases e : q = i
  ·subst e
   split
   ·exact List.mem_append_right _ (by simp)
   ·rename_i hn
    have : (scanTo R k s q).1.getD (gA R q).to.toNat 0 ≠ -2 := fun h => hn ⟨hfr, hc, h⟩
    have := (h1.mem (gA R q).to.toNat (by omega)).1 this
    rwa [yH hto.1] at this
  ·have ih := scan_closed hf hR h hk i (by omega) q (by omega) hfr hc
   split
   ·exact uY _ ih
   ·exact ih
theorem bfs_pre {R : List Arc} {N : Nat} {f : Int} (hf : 0 ≤ f ∧ f < N) (hR : ∀ i, i < R.length → (0 ≤ (gA R i).to ∧ (gA R i).to < N)) {h : Nat} : ∀ j, h ≤ j → (bfsTo R N f h).2 <+: (bfsTo R N f j).2
 | 0, hj => by rw [show h = 0 by omega]; exact vX _
 | j + 1, hj => by
  by_cases e : h = j + 1
  ·rw [e]; exact vX _
  ·refine (bfs_pre hf hR j (by omega)).trans ?_
   conv => rhs; unfold bfsTo
   split
   ·rename_i k hk
    exact (Srch.scan hf hR (Srch.bfs hf hR j) (yF hk) R.length (yE _)).2.2
   ·exact vX _
theorem srch_closed {R : List Arc} {N : Nat} {f : Int} (hf : 0 ≤ f ∧ f < N) (hR : ∀ i, i < R.length → (0 ≤ (gA R i).to ∧ (gA R i).to < N)) {q : Nat} (hq : q < R.length) (hm : (gA R q).from_ ∈ (srch R N f).2) (hc : 0 < (gA R q).cap) : (gA R q).to ∈ (srch R N f).2 := by
 have hS : Srch R N f (srch R N f) := Srch.bfs hf hR N
 have hN := nodup_le N hS.nod hS.rng
 obtain ⟨h, hh, he⟩ := yQ hm
 have hlt : h < (bfsTo R N f h).2.length := by
  apply Classical.byContradiction
  intro hn
  have := bfs_stay (R := R) (N := N) (f := f) (h := h) (by omega) N (by omega)
  unfold srch at hh
  rw [this] at hh
  omega
 have hpre := bfs_pre hf hR (h := h) N (by omega)
 have hk : (bfsTo R N f h).2[h] = (gA R q).from_ := by
  rw [← he]
  exact List.IsPrefix.getElem hpre hlt
 have hmem : (gA R q).from_ ∈ (bfsTo R N f h).2 := by rw [← hk]; exact yD hlt
 have h2 := scan_closed hf hR (Srch.bfs hf hR h) hmem R.length (yE _) q hq rfl hc
 have h3 : bfsTo R N f (h + 1) = scanTo R (gA R q).from_ (bfsTo R N f h) R.length := by
  conv => lhs; unfold bfsTo
  rw [yB hlt, hk]
 rw [← h3] at h2
 exact (bfs_pre hf hR (h := h + 1) N (by omega)).subset h2
theorem cutOf_in {N : Nat} {arcs : List Arc} (hV : Val N arcs) {f : Int} (hf : 0 ≤ f ∧ f < N) {fl : List Int} {v : Int} (hv : 0 ≤ v ∧ v < N) : (cutOf arcs N f fl).getD v.toNat false = true ↔ v ∈ (srch (restA arcs fl arcs.length) N f).2 := by
 have hS : Srch (restA arcs fl arcs.length) N f (srch (restA arcs fl arcs.length) N f) := Srch.bfs hf (rest_to hV fl) N
 have := hS.mem v.toNat (by omega)
 rw [yH hv.1] at this
 rw [← this]
 unfold cutOf cutK
 rw [yA, vW, uV (by omega)]
 simp
 omega
theorem strong {N : Nat} {arcs : List Arc} (hV : Val N arcs) {f t : Int} (hE : (0 ≤ f ∧ f < N) ∧ (0 ≤ t ∧ t < N) ∧ f ≠ t) {r : List Int} (hr : Grt N arcs f t r) :
  (cutOf arcs N f r).getD f.toNat false = true ∧ (cutOf arcs N f r).getD t.toNat false = false ∧ cutTo arcs (cutOf arcs N f r) arcs.length = valTo arcs f r arcs.length := by
 have hS : Srch (restA arcs r arcs.length) N f (srch (restA arcs r arcs.length) N f) := Srch.bfs hE.1 (rest_to hV r) N
 have c1 : (cutOf arcs N f r).getD f.toNat false = true := (cutOf_in hV hE.1 hE.1).2 (yF hS.root.1)
 have c2 : (cutOf arcs N f r).getD t.toNat false = false := by
  rw [← Bool.not_eq_true]
  intro h
  have hm := (cutOf_in hV hE.1 hE.2.1).1 h
  have := (hS.mem t.toNat (by omega)).2 (by rw [yH hE.2.1.1]; exact hm)
  have hs := hr.stop
  unfold round at hs
  rw [if_neg this] at hs
  simp at hs
 refine ⟨c1, c2, ?_⟩
 obtain ⟨d, hd, hv⟩ := hr.val
 have h0 : ∀ j : Int, 0 ≤ j → j < N → j ≠ f → j ≠ t → valTo arcs j r arcs.length = 0 := by
  intro j _ _ h1 h2
  rw [hv, if_neg (fun h => h1 h.symm), if_neg (fun h => h2 h.symm)]; rfl
 have e1 := sumN_flow arcs (cutOf arcs N f r) r arcs.length hE.1.1 c1 c2 N h0 N (yE _)
 rw [if_pos hE.1.2, sumN_all hV _ r _ (yE _)] at e1
 rw [← e1]
 have hpo := (poss_iff hr.len).1 hr.pos
 refine (sumC_eq _ (fun q hq h1 h2 => ?_) (fun q hq h1 h2 => ?_) _ (yE _)).symm
 ·have hvi := val_in hV hq
  have hm := (cutOf_in hV hE.1 hvi.1).1 h1
  apply Classical.byContradiction
  intro hne
  have hcap := hpo q hq
  have hev := restA_even arcs r arcs.length q hq
  have := srch_closed hE.1 (rest_to hV r) (q := 2 * q) (by rw [restA_len]; omega) (by rw [hev]; exact hm) (by rw [hev]; simp only; omega)
  rw [hev] at this
  have := (cutOf_in hV hE.1 hvi.2).2 this
  rw [this] at h2
  simp at h2
 ·have hvi := val_in hV hq
  have hm := (cutOf_in hV hE.1 hvi.2).1 h2
  apply Classical.byContradiction
  intro hne
  have hcap := hpo q hq
  have hod := restA_odd arcs r arcs.length q hq
  have := srch_closed hE.1 (rest_to hV r) (q := 2 * q + 1) (by rw [restA_len]; omega) (by rw [hod]; exact hm) (by rw [hod]; simp only; omega)
  rw [hod] at this
  have := (cutOf_in hV hE.1 hvi.1).2 this
  rw [this] at h1
  simp at h1
end Go.Fx.P.F
namespace Go.Fx.P.K
open Go Go.Fx Go.Proofs
def sm (g : Nat → Int) : Nat → Int
 | 0 => 0
 | n + 1 => sm g n + g n
theorem sm_zero : ∀ n, sm (fun _ => 0) n = 0
 | 0 => rfl
 | n + 1 => by simp [sm, sm_zero n]
theorem sm_congr {g h : Nat → Int} : ∀ n, (∀ v, v < n → g v = h v) → sm g n = sm h n
 | 0, _ => rfl
 | n + 1, hh => by simp only [sm]; rw [sm_congr n fun v hv => hh v (by omega), hh n (by omega)]
theorem sm_add (g h : Nat → Int) : ∀ n, sm (fun v => g v + h v) n = sm g n + sm h n
 | 0 => rfl
 | n + 1 => by simp only [sm, sm_add g h n]; omega
theorem sm_sub (g h : Nat → Int) : ∀ n, sm (fun v => g v - h v) n = sm g n - sm h n
 | 0 => rfl
 | n + 1 => by simp only [sm, sm_sub g h n]; omega
theorem sm_le {g h : Nat → Int} : ∀ n, (∀ v, v < n → g v ≤ h v) → sm g n ≤ sm h n
 | 0, _ => vK _
 | n + 1, hh => by
  have := sm_le n fun v hv => hh v (by omega)
  have := hh n (by omega)
  simp only [sm]; omega
theorem sm_one (a : Nat) (c : Int) : ∀ n, sm (fun v => if v = a then c else 0) n = if a < n then c else 0
 | 0 => by simp [sm]
 | n + 1 => by
  simp only [sm, sm_one a c n]
  by_cases h : a = n
  ·subst h; simp
  ·have h2 : ¬ n = a := fun e => h e.symm
   rw [if_neg h2]
   by_cases h3 : a < n
   ·rw [if_pos h3, if_pos (by omega)]; omega
   ·rw [if_neg h3, if_neg (by omega)]; omega
theorem sm_two {g : Nat → Int} {a b : Nat} (hab : a ≠ b) {n : Nat} (ha : a < n) (hb : b < n) (h : ∀ v, v < n → v ≠ a → v ≠ b → g v = 0) : sm g n = g a + g b := by
 have : sm g n = sm (fun v => (if v = a then g a else 0) + (if v = b then g b else 0)) n := by
  refine sm_congr n fun v hv => ?_
  by_cases h1 : v = a
  ·subst h1
   rw [if_pos rfl, if_neg hab]; omega
  ·rw [if_neg h1]
   by_cases h2 : v = b
   ·subst h2; rw [if_pos rfl]; omega
   ·rw [if_neg h2, h v hv h1 h2]; rfl
 rw [this, sm_add, sm_one, sm_one, if_pos ha, if_pos hb]
abbrev gA (arcs : List Arc) (k : Nat) : Arc := arcs.getD k ⟨0,0,0,0⟩
theorem gA_at {arcs : List Arc} {k : Nat} (h : k < arcs.length) : gA arcs k = arcs[k] := by
 unfold gA
 rw [yA, yB h]; rfl
theorem Val.at {N : Nat} {arcs : List Arc} (hV : Val N arcs) {k : Nat} (hk : k < arcs.length) : (0 ≤ (gA arcs k).from_ ∧ (gA arcs k).from_ < N) ∧ (0 ≤ (gA arcs k).to ∧ (gA arcs k).to < N) ∧ (gA arcs k).from_ ≠ (gA arcs k).to ∧ (0 ≤ (gA arcs k).cap ∧ (gA arcs k).cap ≤ 1073741824) ∧ 0 ≤ (gA arcs k).cost ∧ (gA arcs k).cost ≤ 1048576 := by
 rw [gA_at hk]
 exact hV.ha arcs[k] (yD hk)
theorem pot {N : Nat} {arcs : List Arc} (hV : Val N arcs) (fl : List Int) (p : Nat → Int) : ∀ k, k ≤ arcs.length →
  sm (fun v => p v * valTo arcs v fl k) N = sm (fun j => fl.getD j 0 * (p (gA arcs j).from_.toNat - p (gA arcs j).to.toNat)) k
 | 0, _ => by
  simp only [valTo, vQ]
  rw [sm_zero]; rfl
 | k + 1, hk => by
  have ih := pot hV fl p k (by omega)
  have hv := hV.at (show k < arcs.length by omega)
  have e : sm (fun v => p v * valTo arcs v fl (k + 1)) N = sm (fun v => (p v * valTo arcs v fl k + (if v = (gA arcs k).from_.toNat then p (gA arcs k).from_.toNat * fl.getD k 0 else 0)) - (if v = (gA arcs k).to.toNat then p (gA arcs k).to.toNat * fl.getD k 0 else 0)) N := by
   refine sm_congr N fun v _ => ?_
   have hs : valTo arcs v fl (k + 1) = valTo arcs v fl k + (if (gA arcs k).from_ = v then fl.getD k 0 else 0) - (if (gA arcs k).to = v then fl.getD k 0 else 0) := rfl
   rw [hs, uT, Int.mul_add]
   have e1 : p v * (if (gA arcs k).from_ = (v : Int) then fl.getD k 0 else 0) = if v = (gA arcs k).from_.toNat then p (gA arcs k).from_.toNat * fl.getD k 0 else 0 := by
    by_cases h : (gA arcs k).from_ = v
    ·have : v = (gA arcs k).from_.toNat := by omega
     rw [if_pos h, if_pos this, ← this]
    ·have : ¬ v = (gA arcs k).from_.toNat := by omega
     rw [if_neg h, if_neg this, vQ]
   have e2 : p v * (if (gA arcs k).to = (v : Int) then fl.getD k 0 else 0) = if v = (gA arcs k).to.toNat then p (gA arcs k).to.toNat * fl.getD k 0 else 0 := by
    by_cases h : (gA arcs k).to = v
    ·have : v = (gA arcs k).to.toNat := by omega
     rw [if_pos h, if_pos this, ← this]
    ·have : ¬ v = (gA arcs k).to.toNat := by omega
     rw [if_neg h, if_neg this, vQ]
   rw [e1, e2]
  rw [e, sm_sub, sm_add, sm_one, sm_one, if_pos (by omega), if_pos (by omega), ih]
  simp only [sm]
  rw [uT, Int.mul_comm (p _), Int.mul_comm (p _)]
  omega
theorem pot_flow {N : Nat} {arcs : List Arc} (hV : Val N arcs) {f t : Int} (hf : 0 ≤ f ∧ f < N) (ht : 0 ≤ t ∧ t < N) (hft : f ≠ t) (fl : List Int) (h0 : ∀ j : Int, 0 ≤ j → j < N → j ≠ f → j ≠ t → valTo arcs j fl arcs.length = 0) (p : Nat → Int) :
  sm (fun j => fl.getD j 0 * (p (gA arcs j).from_.toNat - p (gA arcs j).to.toNat)) arcs.length = (p f.toNat - p t.toNat) * valTo arcs f fl arcs.length := by
 have two : ∀ p : Nat → Int, sm (fun j => fl.getD j 0 * (p (gA arcs j).from_.toNat - p (gA arcs j).to.toNat)) arcs.length = p f.toNat * valTo arcs f fl arcs.length + p t.toNat * valTo arcs t fl arcs.length := by
  intro p
  rw [← pot hV fl p _ (yE _), sm_two (a := f.toNat) (b := t.toNat) (by omega) (by omega) (by omega)]
  ·rw [yH hf.1, yH ht.1]
  ·intro v hv h1 h2
   rw [h0 v (by omega) (by omega) (by omega) (by omega), vQ]
 have h1 := two fun _ => 1
 simp only [Int.sub_self, vQ, Int.one_mul] at h1
 rw [sm_zero] at h1
 rw [two p, uU]
 have : valTo arcs t fl arcs.length = - valTo arcs f fl arcs.length := by omega
 rw [this, Int.mul_neg]
 omega
theorem totTo_sm (arcs : List Arc) (fl : List Int) : ∀ k, totTo arcs fl k = sm (fun j => fl.getD j 0 * (gA arcs j).cost) k
 | 0 => rfl
 | k + 1 => by simp only [totTo, sm, totTo_sm arcs fl k]
theorem mul_sign {a r : Int} (h1 : r < 0 → a ≤ 0) (h2 : 0 < r → 0 ≤ a) : 0 ≤ a * r := by
 rcases Int.lt_trichotomy r 0 with h | h | h
 ·have := uF (show 0 ≤ -a by have := h1 h; omega) (show 0 ≤ -r by omega)
  rwa [Int.neg_mul_neg] at this
 ·subst h; simp
 ·exact uF (h2 h) (by omega)
end Go.Fx.P.K
namespace Go.Fx.P.K
open Go Go.Fx Go.Proofs
def Slack (arcs : List Arc) (x : List Int) (p : Nat → Int) : Prop :=
 ∀ k, k < arcs.length → ((gA arcs k).cost + p (gA arcs k).from_.toNat - p (gA arcs k).to.toNat < 0 → (gA arcs k).cap ≤ x.getD k 0) ∧ (0 < (gA arcs k).cost + p (gA arcs k).from_.toNat - p (gA arcs k).to.toNat → x.getD k 0 ≤ 0)
theorem OkF.at {n : Int} {arcs : List Arc} {f t : Int} {x : List Int} (h : OkF n arcs f t x) {k : Nat} (hk : k < arcs.length) : 0 ≤ x.getD k 0 ∧ x.getD k 0 ≤ (gA arcs k).cap := by
 have hl := h.hl
 have := h.hp k (by omega) hk
 rw [gA_at hk, getD_nat (by omega)]
 exact this
theorem sm_nonneg {g : Nat → Int} : ∀ n, (∀ v, v < n → 0 ≤ g v) → 0 ≤ sm g n
 | 0, _ => vK _
 | n + 1, hh => by
  have := sm_nonneg n fun v hv => hh v (by omega)
  have := hh n (by omega)
  simp only [sm]; omega
theorem cheaper {N : Nat} {arcs : List Arc} (hV : Val N arcs) {f t : Int} (hf : 0 ≤ f ∧ f < N) (ht : 0 ≤ t ∧ t < N) (hft : f ≠ t) {x g : List Int} (hx : OkF N arcs f t x) (hg : OkF N arcs f t g) {p : Nat → Int} (hs : Slack arcs x p) :
  (p t.toNat - p f.toNat) * (valTo arcs f g arcs.length - valTo arcs f x arcs.length) ≤ totTo arcs g arcs.length - totTo arcs x arcs.length := by
 have h1 := pot_flow hV hf ht hft x hx.hz p
 have h2 := pot_flow hV hf ht hft g hg.hz p
 have h3 : 0 ≤ sm (fun j => (g.getD j 0 - x.getD j 0) * ((gA arcs j).cost + p (gA arcs j).from_.toNat - p (gA arcs j).to.toNat)) arcs.length := by
  refine sm_nonneg _ fun k hk => mul_sign (fun h => ?_) (fun h => ?_)
  ·have := (hs k hk).1 h
   have := hg.at hk
   omega
  ·have := (hs k hk).2 h
   have := hg.at hk
   omega
 have h4 : sm (fun j => (g.getD j 0 - x.getD j 0) * ((gA arcs j).cost + p (gA arcs j).from_.toNat - p (gA arcs j).to.toNat)) arcs.length
   = (totTo arcs g arcs.length - totTo arcs x arcs.length) + ((p f.toNat - p t.toNat) * valTo arcs f g arcs.length - (p f.toNat - p t.toNat) * valTo arcs f x arcs.length) := by
  rw [totTo_sm, totTo_sm, ← h1, ← h2, ← sm_sub, ← sm_sub, ← sm_add]
  refine sm_congr _ fun k _ => ?_
  generalize g.getD k 0 = a
  generalize x.getD k 0 = b
  generalize p (gA arcs k).from_.toNat = c
  generalize p (gA arcs k).to.toNat = d
  generalize (gA arcs k).cost = e
  rw [show e + c - d = e + (c - d) by omega, Int.mul_add, uU, uU]
 rw [h4] at h3
 rw [show p t.toNat - p f.toNat = -(p f.toNat - p t.toNat) by omega, Int.neg_mul, uT]
 omega
theorem cut_most {N : Nat} {arcs : List Arc} (hV : Val N arcs) {f t : Int} (hf : 0 ≤ f ∧ f < N) (ht : 0 ≤ t ∧ t < N) (hft : f ≠ t) {x g : List Int} (hx : OkF N arcs f t x) (hg : OkF N arcs f t g) (c : Nat → Bool) (cf : c f.toNat = true) (ct : c t.toNat = false)
  (hc : ∀ k, k < arcs.length → (c (gA arcs k).from_.toNat = true → c (gA arcs k).to.toNat = false → x.getD k 0 = (gA arcs k).cap) ∧ (c (gA arcs k).to.toNat = true → c (gA arcs k).from_.toNat = false → x.getD k 0 = 0)) :
  valTo arcs f g arcs.length ≤ valTo arcs f x arcs.length := by
 have h1 := pot_flow hV hf ht hft x hx.hz fun v => if c v = true then 1 else 0
 have h2 := pot_flow hV hf ht hft g hg.hz fun v => if c v = true then 1 else 0
 have e : ((if c f.toNat = true then (1 : Int) else 0) - (if c t.toNat = true then 1 else 0)) = 1 := by rw [cf, ct]; rfl
 simp only [e, Int.one_mul] at h1 h2
 rw [← h1, ← h2]
 refine sm_le _ fun k hk => ?_
 have h3 := hc k hk
 have h4 := hx.at hk
 have h5 := hg.at hk
 generalize c (gA arcs k).from_.toNat = a at *
 generalize c (gA arcs k).to.toNat = b at *
 generalize g.getD k 0 = u at *
 generalize x.getD k 0 = w at *
 cases a <;> cases b <;> simp at * <;> omega
theorem OkP.slack {N : Nat} {arcs : List Arc} {f : Int} {x price : List Int} (h : OkP N arcs f x price) : Slack arcs x fun v => price.getD v 0 := by
 intro k hk
 rw [gA_at hk]
 exact h.ha k hk
theorem OkC.cut {N : Nat} {arcs : List Arc} (hV : Val N arcs) {f t : Int} (hf : 0 ≤ f ∧ f < N) (ht : 0 ≤ t ∧ t < N) {x cut : List Int} (h : OkC N arcs f t x cut) : ∀ k, k < arcs.length → (hasB cut ((gA arcs k).from_.toNat : Int) = true → hasB cut ((gA arcs k).to.toNat : Int) = false → x.getD k 0 = (gA arcs k).cap) ∧ (hasB cut ((gA arcs k).to.toNat : Int) = true → hasB cut ((gA arcs k).from_.toNat : Int) = false → x.getD k 0 = 0) := by
 intro k hk
 have hv := hV.at hk
 have := h.ha.h k hk hk
 rw [yH hv.1.1, yH hv.2.1.1, gA_at hk]
 exact this
end Go.Fx.P.K
namespace Go.Fx.P
open Go Go.Fx Go.Proofs
theorem FVal {N : Nat} {arcs : List Arc} (h : K.Val N arcs) : F.Val N arcs := ⟨h.hn, h.hl, fun a ha => by
 obtain ⟨h1, h2, h3, h4, h5⟩ := h.ha a ha
 exact ⟨⟨h1, h2, h3⟩, h4⟩⟩
theorem valFK (arcs : List Arc) (x : Int) (fl : List Int) : ∀ k, F.valTo arcs x fl k = K.valTo arcs x fl k
 | 0 => rfl
 | k + 1 => by simp only [F.valTo, K.valTo, valFK arcs x fl k]
theorem okF_of {N : Nat} {arcs : List Arc} {f t : Int} {fl : List Int} (h : F.checkI N arcs f t fl = 0) (hz : ∀ j : Int, 0 ≤ j → j < N → j ≠ f → j ≠ t → F.valTo arcs j fl arcs.length = 0) : K.OkF N arcs f t fl := by
 obtain ⟨_, h2, h3⟩ := F.check0 h
 exact ⟨h2, h3, fun j a b c d => by rw [← valFK]; exact hz j a b c d⟩
theorem check_flow {N : Nat} {arcs : List Arc} {f t : Int} {fl : List Int} (h : F.checkI N arcs f t fl = 0) : ∀ j : Int, 0 ≤ j → j < N → j ≠ f → j ≠ t → F.valTo arcs j fl arcs.length = 0 := by
 unfold F.checkI at h
 split at h
 ·simp at h
 ·split at h
  ·simp at h
  ·split at h
   ·rename_i h3; exact h3.1
   ·simp at h
theorem check_ok {N : Nat} {arcs : List Arc} {f t : Int} {fl : List Int} (he : F.endsB N f t = true) (h : K.OkF N arcs f t fl) (h0 : 0 ≤ K.valTo arcs f fl arcs.length) : F.checkI N arcs f t fl = 0 := by
 unfold F.checkI
 rw [if_neg (by simp [he, h.hl]), if_neg (fun hh => hh h.hp), if_pos]
 exact ⟨fun j a b c d => by rw [valFK]; exact h.hz j a b c d, by rw [valFK]; exact h0⟩
section
variable {N : Nat} {arcs : List Arc} {f t : Int}
theorem grt_okF (hE : (0 ≤ f ∧ f < N) ∧ (0 ≤ t ∧ t < N) ∧ f ≠ t) {r : List Int} (hr : F.Grt N arcs f t r) : K.OkF N arcs f t r := by
 obtain ⟨d, hd, hv⟩ := hr.val
 refine ⟨hr.len, hr.pos, fun j a b c e => ?_⟩
 rw [← valFK, hv, if_neg (fun h => c h.symm), if_neg (fun h => e h.symm)]; rfl
theorem grt_most (hV : K.Val N arcs) (hE : (0 ≤ f ∧ f < N) ∧ (0 ≤ t ∧ t < N) ∧ f ≠ t) {r g : List Int} (hr : F.Grt N arcs f t r) (hg : K.OkF N arcs f t g) : K.valTo arcs f g arcs.length ≤ K.valTo arcs f r arcs.length := by
 obtain ⟨s1, s2, s3⟩ := F.strong (FVal hV) hE hr
 have := F.weak (FVal hV) hE.1 hg.hl hg.hp s1 s2 (fun j a b c d => by rw [valFK]; exact hg.hz j a b c d)
 rw [s3, valFK, valFK] at this
 exact this
def mineK (N : Nat) (cut : List Int) (k : Nat) : List Bool := (yG N).map fun j : Nat => K.hasB (cut.take k) (j : Int)
theorem mine_len {N : Nat} {cut : List Int} {k : Nat} : (mineK N cut k).length = N := by simp [mineK]
theorem mine_at {N : Nat} {cut : List Int} {k j : Nat} (h : j < N) : (mineK N cut k).getD j false = K.hasB (cut.take k) (j : Int) := by
 rw [yA]
 simp [mineK, h]
theorem mine_0 {N : Nat} {cut : List Int} : mineK N cut 0 = yC N false := by
 apply yK
 ·simp [mineK]
 ·intro j h1 h2; simp [mineK, K.hasB]
theorem mine_s {N : Nat} {cut : List Int} {k : Nat} (hk : k < cut.length) (h : 0 ≤ cut[k] ∧ cut[k] < N) : (mineK N cut k).set cut[k].toNat true = mineK N cut (k + 1) := by
 apply yK
 ·simp [mineK]
 ·intro j h1 h2
  simp only [mineK, vF, vS, uH, K.hasB, xC hk, vJ, yT]
  by_cases hj : cut[k].toNat = j
  ·have : (j : Int) = cut[k] := by omega
   simp [hj, this]
  ·have : ¬ (j : Int) = cut[k] := by omega
   simp [hj, this]
theorem mine_proves (hV : K.Val N arcs) (he : F.endsB N f t = true) (hE : (0 ≤ f ∧ f < N) ∧ (0 ≤ t ∧ t < N) ∧ f ≠ t) {x cut : List Int} (hx : K.OkF N arcs f t x) (h0 : 0 ≤ K.valTo arcs f x arcs.length) (hc : K.OkC N arcs f t x cut) : F.provesB N arcs f t x (mineK N cut cut.length) = true := by
 have hat : ∀ {v : Int}, 0 ≤ v ∧ v < N → (mineK N cut cut.length).getD v.toNat false = K.hasB cut v := by
  intro v hv
  rw [mine_at (by omega), uJ, yH hv.1]
 have hin : ∀ q, q < arcs.length → (0 ≤ (F.gA arcs q).from_ ∧ (F.gA arcs q).from_ < N) ∧ (0 ≤ (F.gA arcs q).to ∧ (F.gA arcs q).to < N) := fun q hq => F.val_in (FVal hV) hq
 have hga : ∀ q (h : q < arcs.length), F.gA arcs q = arcs[q] := fun q h => F.getD_nil (a := ⟨0,0,0,0⟩) h
 have e1 := F.sumC_eq (arcs := arcs) (mineK N cut cut.length) (fl := x) (fun q hq h1 h2 => by
  rw [hat (hin q hq).1] at h1; rw [hat (hin q hq).2] at h2
  rw [hga q hq] at h1 h2 ⊢
  exact (hc.ha.h q hq hq).1 h1 h2) (fun q hq h1 h2 => by
  rw [hat (hin q hq).1] at h1; rw [hat (hin q hq).2] at h2
  rw [hga q hq] at h1 h2
  exact (hc.ha.h q hq hq).2 h2 h1) arcs.length (yE _)
 have cf : (mineK N cut cut.length).getD f.toNat false = true := by rw [hat hE.1]; exact hc.hf
 have ct : (mineK N cut cut.length).getD t.toNat false = false := by rw [hat hE.2.1]; exact hc.ht
 have e2 := F.sumN_flow arcs (mineK N cut cut.length) x arcs.length hE.1.1 cf ct N (fun j a b c d => by rw [valFK]; exact hx.hz j a b c d) N (yE _)
 rw [if_pos hE.1.2, F.sumN_all (FVal hV) _ _ _ (yE _), e1] at e2
 unfold F.provesB
 exact decide_eq_true ⟨check_ok he hx h0, mine_len, cf, ct, e2⟩
end
section
variable {ps : List Spot} {rs : List Road} {fr : Fr}
def lackN (ps : List Spot) (fr : Fr) (n : Nat) : List Nat := (ofN ps 1 n).filter fun i => decide (fr.fl i < capAt ps i)
theorem sumC_take (l : List Nat) : ∀ k, k ≤ l.length → sumC ps (l.take k) = sumI (fun q => capAt ps (l.getD q 0)) k
 | 0, _ => rfl
 | k + 1, h => by
  rw [xC (by omega), sumC_app, sumC_take l k (by omega), sumI, yA, yB (by omega)]
  simp [sumC]
theorem sumC_sum (l : List Nat) : sumC ps l = sumI (fun q => capAt ps (l.getD q 0)) l.length := by
 have := sumC_take (ps := ps) l l.length (yE _)
 rwa [uJ] at this
theorem lack_sum (h : ∀ i, i < ps.length → fr.fl i ≤ capAt ps i) : ∀ n, n ≤ ps.length → kindSum ps fr 1 n ≤ sumC ps (ofN ps 1 n) ∧ (lackN ps fr n ≠ [] ↔ kindSum ps fr 1 n < sumC ps (ofN ps 1 n))
 | 0, _ => by simp [lackN, ofN, kindSum, sumI, sumC]
 | n + 1, hn => by
  obtain ⟨h1, h2⟩ := lack_sum h n (by omega)
  have h3 := h n (by omega)
  have e1 : lackN ps fr (n + 1) = lackN ps fr n ++ (if isK ps 1 n = true ∧ fr.fl n < capAt ps n then [n] else []) := by
   simp only [lackN, ofN_succ, uM]
   cases hk : isK ps 1 n with
   | true => by_cases hf : fr.fl n < capAt ps n <;> simp [hf]
   | false => simp
  have e2 : kindSum ps fr 1 (n + 1) = kindSum ps fr 1 n + (if isK ps 1 n = true then fr.fl n else 0) := rfl
  have e3 : sumC ps (ofN ps 1 (n + 1)) = sumC ps (ofN ps 1 n) + (if isK ps 1 n = true then capAt ps n else 0) := by
   rw [ofN_succ, sumC_app]
   cases hk : isK ps 1 n with
   | true => simp [sumC]
   | false => simp [sumC]
  rw [e1, e2, e3]
  cases hk : isK ps 1 n with
  | true =>
   by_cases hf : fr.fl n < capAt ps n
   ·refine ⟨by simp only [if_true]; omega, fun _ => by simp only [if_true]; omega, fun _ => by simp [hf]⟩
   ·simp only [hf, and_false, if_false, uB, if_true]
    exact ⟨by omega, ⟨fun h4 => by have := h2.1 h4; omega, fun h4 => h2.2 (by omega)⟩⟩
  | false =>
   simp only [Bool.false_eq_true, false_and, if_false, uB, Int.add_zero]
   exact ⟨h1, h2⟩
theorem IsPlan.short (h : IsPlan ps rs fr) : lackN ps fr ps.length ≠ [] ↔ fr.sent < dem ps := by
 have := (lack_sum (ps := ps) (fr := fr) (fun i hi => by rw [capAt_lt hi]; exact h.caps hi) ps.length (yE _)).2
 rw [h.asked] at this
 exact this
theorem flow_dem (hc : chkP ps rs = 0) {g : List Int} (hg : K.OkF (nN ps) (netOf ps rs) 0 1 g) : K.valTo (netOf ps rs) 0 g (netOf ps rs).length ≤ dem ps := by
 have e := val_0 (fr := ⟨0, 0, g, [], []⟩) (chk_caps hc).2.2
 simp only at e
 rw [e, dem, sumC_sum]
 refine sumI_le fun k hk => ?_
 have h1 := hg.at (k := ps.length + k) (by rw [netOf_len]; omega)
 have l3 : (nA3 ps (ofN ps 3 ps.length)).length = ps.length + (ofN ps 1 ps.length).length + (ofN ps 3 ps.length).length := by
  simp only [nA3, nA2, nA1, yP, yM, yU]
 have l2 : (nA2 ps (ofN ps 1 ps.length)).length = ps.length + (ofN ps 1 ps.length).length := by
  simp only [nA2, nA1, yP, yM, yU]
 have e2 : K.gA (netOf ps rs) (ps.length + k) = aS ps ((ofN ps 1 ps.length).getD k 0) := by
  show (netOf ps rs).getD (ps.length + k) a0 = _
  rw [netOf, nA4, getD_l (by omega), nA3, getD_l (by omega), nA2, getD_r nA1_len, getD_map 0 hk]
 rw [e2] at h1
 exact h1.2
theorem IsPlan.most (h : IsPlan ps rs fr) {r : List Int} (hr : F.Grt (nN ps) (netOf ps rs) 0 1 r) : K.valTo (netOf ps rs) 0 r (netOf ps rs).length = fr.sent := by
 have hV := net_val h.chk
 have hE : ((0 : Int) ≤ 0 ∧ (0 : Int) < nN ps) ∧ ((0 : Int) ≤ 1 ∧ (1 : Int) < nN ps) ∧ (0 : Int) ≠ 1 := by simp only [nN]; omega
 have h1 := grt_most hV hE hr h.acc.fl
 rw [h.acc.hv] at h1
 have h2 := grt_okF hE hr
 have h3 := h.acc.hc
 by_cases hs : fr.sent = dem ps
 ·have := flow_dem h.chk h2
  omega
 ·rw [if_neg hs] at h3
  have h4 := K.cut_most hV hE.1 hE.2.1 hE.2.2 h.acc.fl h2 (fun v => K.hasB fr.cut v) h3.hf h3.ht (h3.cut hV hE.1 hE.2.1)
  rw [h.acc.hv] at h4
  omega
theorem IsPlan.cheap (h : IsPlan ps rs fr) {g : List Int} (hg : K.OkF (nN ps) (netOf ps rs) 0 1 g) (he : K.valTo (netOf ps rs) 0 g (netOf ps rs).length = fr.sent) : fr.cost ≤ K.totTo (netOf ps rs) g (netOf ps rs).length := by
 have hV := net_val h.chk
 have hE : ((0 : Int) ≤ 0 ∧ (0 : Int) < nN ps) ∧ ((0 : Int) ≤ 1 ∧ (1 : Int) < nN ps) ∧ (0 : Int) ≠ 1 := by simp only [nN]; omega
 have := K.cheaper hV hE.1 hE.2.1 hE.2.2 h.acc.fl hg h.acc.hp.slack
 rw [he, h.acc.hv, h.acc.ht, Int.sub_self, vQ] at this
 omega
end
end Go.Fx.P
namespace Go.Fx.P.K
open Go Go.Fx Go.Proofs
set_option maxRecDepth 20000
def rowF (N : Nat) (f : Int → Int) : List (List V) := (yG N).map fun j : Nat => encI (f j)
theorem rowF_len {N : Nat} {f : Int → Int} : (rowF N f).length = N := by simp [rowF]
theorem rowF_get {N : Nat} {f : Int → Int} {i : Nat} (h : i < (rowF N f).length) : (rowF N f)[i] = encI (f i) := by simp [rowF]
theorem rowF_set {N : Nat} {f : Int → Int} {i : Nat} {x : Int} : (rowF N f).set i [.v (.int .i64 x)] = rowF N (fun j => if j = i then x else f j) := by
 apply yK
 ·simp [rowF]
 ·intro j h1 h2
  simp only [vF, rowF_get]
  by_cases h : i = j
  ·subst h; simp [encI]
  ·have : ¬ (j : Int) = i := by omega
   simp [h, this]
theorem rowF_congr {N : Nat} {f g : Int → Int} (h : ∀ i : Nat, i < N → f i = g i) : rowF N f = rowF N g := by
 simp only [rowF, uI, yX]
 intro i hi
 rw [h i hi]
theorem rowF_rep {N : Nat} {x : Int} : yC N [V.v (.int .i64 x)] = rowF N (fun _ => x) := by
 apply yK
 ·simp [rowF]
 ·intro i h1 h2
  simp [rowF, encI]
def rowB (N : Nat) (f : Int → Bool) : List (List V) := (yG N).map fun j : Nat => encB (f j)
theorem rowB_len {N : Nat} {f : Int → Bool} : (rowB N f).length = N := by simp [rowB]
theorem rowB_get {N : Nat} {f : Int → Bool} {i : Nat} (h : i < (rowB N f).length) : (rowB N f)[i] = encB (f i) := by simp [rowB]
theorem rowB_set {N : Nat} {f : Int → Bool} {i : Nat} {x : Bool} : (rowB N f).set i [.v (.bool x)] = rowB N (fun j => if j = i then x else f j) := by
 apply yK
 ·simp [rowB]
 ·intro j h1 h2
  simp only [vF, rowB_get]
  by_cases h : i = j
  ·subst h; simp [encB]
  ·have : ¬ (j : Int) = i := by omega
   simp [h, this]
theorem rowB_congr {N : Nat} {f g : Int → Bool} (h : ∀ i : Nat, i < N → f i = g i) : rowB N f = rowB N g := by
 simp only [rowB, uI, yX]
 intro i hi
 rw [h i hi]
theorem rowB_rep {N : Nat} {x : Bool} : yC N [V.v (.bool x)] = rowB N (fun _ => x) := by
 apply yK
 ·simp [rowB]
 ·intro i h1 h2
  simp [rowB, encB]
theorem valTo_bound2 (arcs : List Arc) (node : Int) (flow : List Int) : ∀ k : Nat, (∀ j, j < k → 0 ≤ flow.getD j 0 ∧ flow.getD j 0 ≤ 1073741824) → -((k : Int) * 1073741824) ≤ valTo arcs node flow k ∧ valTo arcs node flow k ≤ (k : Int) * 1073741824
 | 0, _ => by simp [valTo]
 | k + 1, hf => by
  have h1 := valTo_bound2 arcs node flow k fun j hj => hf j (by omega)
  have h2 := hf k (by omega)
  simp only [valTo]
  split <;> split <;> omega
theorem totTo_bound2 (arcs : List Arc) (flow : List Int) (ha : ∀ a ∈ arcs, 0 ≤ a.cost ∧ a.cost ≤ 1048576) : ∀ k : Nat, (∀ j, j < k → 0 ≤ flow.getD j 0 ∧ flow.getD j 0 ≤ 1073741824) → 0 ≤ totTo arcs flow k ∧ totTo arcs flow k ≤ (k : Int) * 1125899906842624
 | 0, _ => by simp [totTo]
 | k + 1, hf => by
  have h1 := totTo_bound2 arcs flow ha k fun j hj => hf j (by omega)
  have h2 := hf k (by omega)
  have h3 : 0 ≤ (arcs.getD k ⟨0,0,0,0⟩).cost ∧ (arcs.getD k ⟨0,0,0,0⟩).cost ≤ 1048576 := by
   rw [yA]
   cases h : arcs[k]? with
   | none => simp
   | some x => exact ha x (yF h)
  have := mul_b h2 h3
  simp only [totTo]
  omega
open Classical in
noncomputable def flwB (n : Int) (arcs : List Arc) (f t : Int) (fr : Fr) : Bool := decide (OkF n arcs f t fr.flow ∧ valTo arcs f fr.flow arcs.length = fr.sent ∧ totTo arcs fr.flow arcs.length = fr.cost)
theorem flwB_t {n : Int} {arcs : List Arc} {f t : Int} {fr : Fr} (h : OkF n arcs f t fr.flow ∧ valTo arcs f fr.flow arcs.length = fr.sent ∧ totTo arcs fr.flow arcs.length = fr.cost) : flwB n arcs f t fr = true := by simp [flwB, h]
theorem flwB_f {n : Int} {arcs : List Arc} {f t : Int} {fr : Fr} (h : ¬ (OkF n arcs f t fr.flow ∧ valTo arcs f fr.flow arcs.length = fr.sent ∧ totTo arcs fr.flow arcs.length = fr.cost)) : flwB n arcs f t fr = false := by simp only [flwB, h, decide_false]
structure ZInw (arcs : List Arc) (f t s : Int) (flow : List Int) (k : Nat) : Prop where
 h : ∀ j : Nat, j < k → ((j : Int) ≠ f → (j : Int) ≠ t → valTo arcs j flow arcs.length = 0) ∧ ((j : Int) = f → valTo arcs j flow arcs.length = s)
theorem ok67 (N : Nat) (arcs : List Arc) (f t : Int) (fr : Fr) (hV : Val N arcs) (hf : 0 ≤ f ∧ f < N) : Ok 67 [net N arcs, .i f, .i t, fr.enc] (Is (.b (flwB N arcs f t fr))) := by
 refine ok_of lw67 (by simp) ?_
 unfold c67 net Fr.enc li
 have hL := hV.hl
 have hN := hV.hn
 have hac := fun a ha => (hV.ha a ha).2.2.2.2
 simp -implicitDefEqProofs only [rX,↓rY,ofConst,cells?,↓reduceIte,Nat.reduceEqDiff,Nat.reduceAdd,reduceCtorEq,freshP,resP,tupV,wfV,cxN,args0]
 simp only [br, decide_eq_true_eq, decide_eq_false_iff_not, bne_iff_ne, bne_eq_false_iff_eq]
 refine fun hm1 hm2 => ⟨fun h => (flwB_f fun hO => ?_).symm, fun h => ⟨by omega, fun _ => ?_⟩⟩
 ·have := hO.1.hl; omega
 have hl : fr.flow.length = arcs.length := by omega
 refine loopP_intro (fun k : Nat => ⟨[(29, .i k), (28, .i arcs.length), (27, .ro 4 (arcs.map Arc.enc)), (10, .i (totTo arcs fr.flow k)), (9, .sl 2 0 N), (7, .ptr 1 0 0), (4, .ptr 0 0 0), (2, .i t), (1, .i f)], [.var [.i N, .ro 4 (arcs.map Arc.enc)], frB fr, .arr 1 (rowF N (fun j => valTo arcs j fr.flow k))], 0⟩) (fun k => k ≤ arcs.length ∧ PInv arcs fr.flow k) (fun k => arcs.length - k) 0 ⟨by omega, ⟨by simp⟩⟩ ?_ ?_
 ·have h0 : rowF N (fun j => valTo arcs j fr.flow 0) = yC N [V.i 0] := by rw [rowF_rep]; rfl
  simp -implicitDefEqProofs only [rX,↓reduceIte,Nat.reduceEqDiff,reduceCtorEq,leE,leH,leB,leV,leVs,keepP,liveP,wfE,wfB,wfV,wfL,leVs,leV,yI,frB,h0,totTo]
 rintro k ⟨hk, hv⟩
 simp -implicitDefEqProofs only [rX,↓rY,rZ,ofConst,cells?,splice,↓reduceIte,Nat.reduceEqDiff,arrSz,Nat.reduceAdd,freshP,resP,tupV,leE,leH,leB,leV,leVs,keepP,liveP,wfE,wfB,wfV,wfL,isD,isC,frB,rowF_len,rowF_get,rowF_set]
 simp only [br, decide_eq_true_eq, decide_eq_false_iff_not]
 refine ⟨fun h2 => ?_, fun h2 => ?_⟩
 ·have hk1 : k < arcs.length := by omega
  have hk2 : k < fr.flow.length := by omega
  have hva := hV.ha arcs[k] (yD hk1)
  have bad : ¬ (0 ≤ fr.flow[k] ∧ fr.flow[k] ≤ arcs[k].cap) → false = flwB N arcs f t fr := fun h => (flwB_f fun hO => h (hO.1.hp k hk2 hk1)).symm
  have good : (0 ≤ fr.flow[k] ∧ fr.flow[k] ≤ arcs[k].cap) → PInv arcs fr.flow (k + 1) := by
   refine fun hx => ⟨fun j h3 h4 h5 => ?_⟩
   by_cases h6 : j = k
   ·subst h6; exact hx
   ·exact hv.h j h3 h4 (by omega)
  have hfb : ∀ j, j < k → 0 ≤ fr.flow.getD j 0 ∧ fr.flow.getD j 0 ≤ 1073741824 := by
   intro j hj
   have h1 := hv.h j (by omega) (by omega) hj
   have h3 := hV.ha arcs[j] (yD _)
   rw [getD_nat (by omega)]
   omega
  have hb1 := valTo_bound2 arcs arcs[k].from_ fr.flow k hfb
  have hb2 := valTo_bound2 arcs arcs[k].to fr.flow k hfb
  have hb3 := totTo_bound2 arcs fr.flow hac k hfb
  have e1 : ((arcs[k].from_.toNat : Nat) : Int) = arcs[k].from_ := by omega
  have e2 : ((arcs[k].to.toNat : Nat) : Int) = arcs[k].to := by omega
  have e3 : ¬ arcs[k].to = arcs[k].from_ := by omega
  refine ⟨⟨by omega, h2⟩, by omega, ⟨by omega, by omega⟩, by omega, fun h3 => bad (by omega), fun h3 => ⟨fun h4 => bad (by omega), fun h4 => ?_⟩⟩
  have hfk : 0 ≤ fr.flow[k] ∧ fr.flow[k] ≤ 1073741824 := by omega
  have hmb := mul_b hfk hva.2.2.2.2
  have hst := totTo_step hk1 hk2
  simp only [e1, e2, e3, if_false, lo, hi, rowF_len]
  repeat' (first | (refine ⟨(k+1 : _), ?_⟩) | (refine ⟨by omega, ?_⟩) | (refine And.intro ?_ ?_) | (refine (fun _ => ?_)))
  all_goals first | omega | (apply good; omega) | skip
  congr 1
  apply rowF_congr
  intro i hi
  simp only [valTo_step (node := i) hk1 hk2]
  grind
 have hp : possP arcs fr.flow := fun i h3 h4 => hv.h i h3 h4 (by omega)
 have hk0 : k = arcs.length := by omega
 subst hk0
 refine fun _ => loopP_intro (fun k : Nat => ⟨[(72, .i k), (71, .i N), (70, .sl 2 0 N), (10, .i (totTo arcs fr.flow arcs.length)), (7, .ptr 1 0 0), (2, .i t), (1, .i f)], [.dead, frB fr, .arr 1 (rowF N (fun j => valTo arcs j fr.flow arcs.length))], 0⟩) (fun k => k ≤ N ∧ ZInw arcs f t fr.sent fr.flow k) (fun k => N - k) 0 ⟨by omega, ⟨by simp⟩⟩ ?_ ?_
 ·simp -implicitDefEqProofs only [rX,↓reduceIte,Nat.reduceEqDiff,leE,leH,leB,leV,leVs,keepP,liveP,wfE,wfB,wfV,wfL,leVs,leV,yI,frB]
 rintro k ⟨hk, hv⟩
 simp -implicitDefEqProofs only [rX,↓rY,rZ,ofConst,↓reduceIte,Nat.reduceEqDiff,arrSz,Nat.reduceAdd,resP,tupV,leE,leH,leB,leV,leVs,keepP,liveP,wfE,wfB,wfV,wfL,frB,rowF_len,rowF_get]
 simp only [br, decide_eq_true_eq, decide_eq_false_iff_not, bne_iff_ne, bne_eq_false_iff_eq, beq_iff_eq, beq_eq_false_iff_ne]
 refine ⟨fun h3 => ?_, fun h3 => ?_⟩
 ·have h4 : k < N := by omega
  have bad1 : (k : Int) = f → valTo arcs k fr.flow arcs.length ≠ fr.sent → false = flwB N arcs f t fr := fun h h5 => (flwB_f fun hO => h5 (by rw [h]; exact hO.2.1)).symm
  have bad2 : (k : Int) ≠ f → (k : Int) ≠ t → valTo arcs k fr.flow arcs.length ≠ 0 → false = flwB N arcs f t fr := fun h h5 h6 => (flwB_f fun hO => h6 (hO.1.hz k (by omega) (by omega) h h5)).symm
  have good : ((k : Int) ≠ f → (k : Int) ≠ t → valTo arcs k fr.flow arcs.length = 0) ∧ ((k : Int) = f → valTo arcs k fr.flow arcs.length = fr.sent) → ZInw arcs f t fr.sent fr.flow (k + 1) := by
   refine fun h5 => ⟨fun j hj => ?_⟩
   by_cases h6 : j = k
   ·subst h6; exact h5
   ·exact hv.h j (by omega)
  simp only [lo, hi, maxLen, rowF_len] at *
  repeat' (first | (refine ⟨(k+1 : _), ?_⟩) | (refine ⟨by omega, ?_⟩) | (refine And.intro ?_ ?_) | (refine (fun _ => ?_)))
  all_goals first | omega | exact bad1 ‹_› ‹_› | exact bad2 ‹_› ‹_› ‹_› | (exact good ⟨fun _ _ => by first | assumption | omega, fun _ => by first | assumption | omega⟩)
 ·have hOF : OkF N arcs f t fr.flow := ⟨hl, hp, fun j h1 h2 h4 h6 => by
   have := (hv.h j.toNat (by omega)).1
   rw [yH h1] at this
   exact this h4 h6⟩
  have hval : valTo arcs f fr.flow arcs.length = fr.sent := by
   have := (hv.h f.toNat (by omega)).2
   rw [yH hf.1] at this
   exact this rfl
  by_cases hc : totTo arcs fr.flow arcs.length = fr.cost <;> simp [flwB, hOF, hval, hc]
end Go.Fx.P.K
namespace Go.Fx.P.K
open Go Go.Fx Go.Proofs
set_option maxRecDepth 20000
def encN (i : Nat) : List V := [.i i]
def outs (arcs : List Arc) (v : Nat) (k : Nat) : List Nat := (yG k).filter fun i => decide ((gA arcs i).from_ = v ∨ (gA arcs i).to = v)
def outR (arcs : List Arc) (N : Nat) : List (List V) := (yG N).map fun (v : Nat) => [.ro 1 ((outs arcs v arcs.length).map encN)]
theorem outR_len {arcs : List Arc} {N : Nat} : (outR arcs N).length = N := by simp [outR]
theorem outR_get {arcs : List Arc} {N v : Nat} (h : v < (outR arcs N).length) : (outR arcs N)[v] = [.ro 1 ((outs arcs v arcs.length).map encN)] := by simp [outR]
theorem wfL_all {h : List Blk} : ∀ {xs : List V}, (∀ x ∈ xs, wfV h x) → wfL h xs
 | [], _ => trivial
 | x :: r, hx => ⟨hx x vC, wfL_all fun y hy => hx y (vD _ hy)⟩
theorem outR_wf {arcs : List Arc} {N : Nat} {h : List Blk} : wfL h (outR arcs N).flatten := by
 refine wfL_all fun x hx => ?_
 rw [uA] at hx
 obtain ⟨l, h1, h2⟩ := hx
 unfold outR at h1
 rw [yV] at h1
 obtain ⟨v, _, rfl⟩ := h1
 rw [yT] at h2
 subst h2
 trivial
theorem outR_wfT {arcs : List Arc} {N : Nat} {h : List Blk} : wfL h (outR arcs N).flatten = True := eq_true outR_wf
theorem outR_kill {arcs : List Arc} {N : Nat} {M : List Nat} : (outR arcs N).map (kills M) = outR arcs N := by
 unfold outR
 rw [vN]
 rfl
theorem outR_ren {arcs : List Arc} {N : Nat} {g : Nat → Option Nat} : (outR arcs N).map (rens g) = outR arcs N := by
 unfold outR
 rw [vN]
 rfl
def wB (N M : Nat) (arcs : List Arc) (b c d : Nat) : Blk := .var [.i N, .ro 4 (arcs.map Arc.enc), .sl b 0 M, .sl c 0 N, .sl d 0 N]
def wH (N : Nat) (arcs : List Arc) (x p : List Int) : List Blk := [wB N x.length arcs 1 2 3, .arr 1 (x.map encI), .arv 1 (outR arcs N), .arr 1 (p.map encI)]
structure WOk (N : Nat) (arcs : List Arc) (x p : List Int) : Prop where
 hV : Val N arcs
 hN : N ≤ 64
 hx : x.length = arcs.length
 hp : p.length = N
 hb : ∀ j, 0 ≤ p.getD j 0 ∧ p.getD j 0 ≤ 1073741824
theorem ok90 (N : Nat) (arcs : List Arc) (x p : List Int) (v : Int) : OkN Try.prog 90 [.ptr 0 0 0, .i v] (wH N arcs x p) [] (IsA (.clo 108 [.ptr 4 0 0, .ptr 5 0 0]) (wH N arcs x p ++ [.var [.ptr 0 0 0], .var [.i v]])) := by
 refine okN_of pol [0, 1, 2, 3] lw90 (by simp) ⟨trivial, trivial, trivial, trivial, trivial⟩ (by simp [wH]; omega) ?_
 unfold c90 wH wB
 simp -implicitDefEqProofs only [rX,↓rY,ofConst,cells?,↓reduceIte,Nat.reduceEqDiff,Nat.reduceAdd,reduceCtorEq,freshP,resP,tupV,leH,leB,leV,leVs,keepP,liveP,wfB,wfV,wfL,Nat.reduceLeDiff,cxN,args0,retP_isA,outR_wfT]
theorem ok91 (N : Nat) (arcs : List Arc) (x p : List Int) (v to cost : Int) (a b c : V) (hW : WOk N arcs x p) (hv : 0 ≤ v ∧ v < N) (ht : 0 ≤ to ∧ to < N) (hc : -1048576 ≤ cost ∧ cost ≤ 1048576) :
  OkN Try.prog 91 [.ptr 0 0 0, .i v, .agg [a, .i to, b, .i cost, c]] (wH N arcs x p) [] (IsA (.i (cost + p.getD v.toNat 0 - p.getD to.toNat 0)) (wH N arcs x p)) := by
 refine okN_of pol [0, 1, 2, 3] lw91 (by simp) ⟨trivial, trivial, trivial, trivial, trivial⟩ (by simp [wH]; omega) ?_
 have h1 := hW.hb v.toNat
 have h2 := hW.hb to.toNat
 have hp := hW.hp
 have hN := hW.hN
 rw [getD_at (by omega)] at h1 h2 ⊢
 rw [getD_at (l := p) (i := to) (by omega)]
 unfold c91 wH wB
 simp -implicitDefEqProofs only [rX,↓rY,rZ,ofConst,cells?,↓reduceIte,Nat.reduceEqDiff,arrSz,Nat.reduceAdd,reduceCtorEq,freshP,resP,tupV,leH,leB,leV,leVs,keepP,liveP,wfB,wfV,wfL,cxN,args0,retP_isA,outR_wfT]
 simp only [lo, hi]
 repeat' (first | (refine ⟨(0 : _), ?_⟩) | (refine ⟨by omega, ?_⟩) | (refine And.intro ?_ ?_) | (refine (fun _ => ?_)))
 all_goals omega
end Go.Fx.P.K
namespace Go.Fx.P.K
open Go Go.Fx Go.Proofs
set_option maxRecDepth 20000
def hpB (n : Nat) (ks vs : List Int) : List Blk := [.var [.sl 1 0 n, .sl 2 0 n], .arr 1 (ks.map encI), .arr 1 (vs.map encI)]
def EntH (n : Nat) (ks vs : List Int) (k v : Int) : Prop := ∃ j, j < n ∧ ks.getD j 0 = k ∧ vs.getD j 0 = v
def sw (l : List Int) (i k : Nat) : List Int := (l.set i (l.getD k 0)).set k (l.getD i 0)
theorem sw_len {l : List Int} {i k : Nat} : (sw l i k).length = l.length := by simp [sw]
theorem getD_set0 {l : List Int} {i j : Nat} {x : Int} (h : i < l.length) : (l.set i x).getD j 0 = if j = i then x else l.getD j 0 := by
 rw [yA, List.getElem?_set]
 by_cases e : i = j
 ·subst e; simp [h]
 ·rw [if_neg e, if_neg (Ne.symm e), yA]
theorem sw_get {l : List Int} {i k j : Nat} (hi : i < l.length) (hk : k < l.length) : (sw l i k).getD j 0 = if j = k then l.getD i 0 else if j = i then l.getD k 0 else l.getD j 0 := by
 unfold sw
 rw [getD_set0 (by simpa using hk), getD_set0 hi]
theorem ent_sw {n : Nat} {ks vs : List Int} {i k : Nat} (hi : i < n) (hk : k < n) (h1 : n ≤ ks.length) (h2 : n ≤ vs.length) (a b : Int) : EntH n (sw ks i k) (sw vs i k) a b ↔ EntH n ks vs a b := by
 have key : ∀ {ks vs : List Int}, n ≤ ks.length → n ≤ vs.length → EntH n (sw ks i k) (sw vs i k) a b → EntH n ks vs a b := by
  rintro ks vs h1 h2 ⟨j, hj, q1, q2⟩
  rw [sw_get (by omega) (by omega)] at q1 q2
  by_cases e1 : j = k
  ·rw [if_pos e1] at q1 q2; exact ⟨i, hi, q1, q2⟩
  ·rw [if_neg e1] at q1 q2
   by_cases e2 : j = i
   ·rw [if_pos e2] at q1 q2; exact ⟨k, hk, q1, q2⟩
   ·rw [if_neg e2] at q1 q2; exact ⟨j, hj, q1, q2⟩
 refine ⟨key h1 h2, fun h => ?_⟩
 have e : ∀ {l : List Int}, n ≤ l.length → sw (sw l i k) i k = l := by
  intro l hl
  apply yK
  ·simp [sw_len]
  ·intro j hj1 hj2
   have g := sw_get (l := sw l i k) (i := i) (k := k) (j := j) (by rw [sw_len]; omega) (by rw [sw_len]; omega)
   rw [getD_nat hj1] at g
   rw [g]
   simp only [sw_get (l := l) (show i < l.length by omega) (show k < l.length by omega)]
   have : l.getD j 0 = l[j] := getD_nat hj2
   grind
 exact key (by rw [sw_len]; exact h1) (by rw [sw_len]; exact h2) (by rw [e h1, e h2]; exact h)
theorem encI_set {l : List Int} {i : Nat} {x : Int} : (l.map encI).set i [.v (.int .i64 x)] = (l.set i x).map encI := by
 rw [vA]; rfl
theorem ok107 (n : Nat) (ks vs : List Int) (i k : Nat) (hi : i < n) (hk : k < n) (h1 : n ≤ ks.length) (h2 : n ≤ vs.length) : OkN Try.prog 107 [.ptr 0 0 0, .i i, .i k] (hpB n ks vs) [] (IsA (.tup []) (hpB n (sw ks i k) (sw vs i k))) := by
 refine okN_of pol [0, 1, 2] lw107 (by simp) ⟨trivial, trivial, trivial, trivial⟩ (by simp [hpB]; omega) ?_
 unfold sw
 rw [getD_nat (show i < ks.length by omega), getD_nat (show i < vs.length by omega), getD_nat (show k < ks.length by omega), getD_nat (show k < vs.length by omega)]
 unfold c107 hpB
 simp -implicitDefEqProofs only [rX,↓rY,rZ,rdK,cells?,splice,↓reduceIte,Nat.reduceEqDiff,arrSz,Nat.reduceAdd,reduceCtorEq,resP,tupV,leH,leB,leV,leVs,keepP,liveP,wfB,wfV,wfL,isD,isC,cxN,args0,retP_isA,encI_set,uR]
 repeat' (first | (refine ⟨(0 : _), ?_⟩) | (refine ⟨by omega, ?_⟩) | (refine And.intro ?_ ?_) | (refine (fun _ => ?_)))
 all_goals first | omega | rfl | simp
end Go.Fx.P.K
namespace Go.Fx.P.K
open Go Go.Fx Go.Proofs
set_option maxRecDepth 20000
structure PushQ (n : Nat) (ks vs : List Int) (key val : Int) (g : List Int × List Int) : Prop where
 h1 : g.1.length = n + 1
 h2 : g.2.length = n + 1
 he : ∀ a b, EntH (n + 1) g.1 g.2 a b ↔ (EntH n ks vs a b ∨ (a = key ∧ b = val))
theorem ent_snoc {n : Nat} {ks vs : List Int} (h1 : n ≤ ks.length) (h2 : n ≤ vs.length) (key val a b : Int) : EntH (n + 1) (ks.take n ++ [key]) (vs.take n ++ [val]) a b ↔ (EntH n ks vs a b ∨ (a = key ∧ b = val)) := by
 have hg : ∀ {l : List Int} {x : Int} {j : Nat}, n ≤ l.length → (l.take n ++ [x]).getD j 0 = if j < n then l.getD j 0 else if j = n then x else 0 := by
  intro l x j hl
  rw [yA]
  by_cases e : j < n
  ·rw [if_pos e, yY (by rw [uD]; omega), List.getElem?_take_of_lt e, yA]
  ·rw [if_neg e, vE (by rw [uD]; omega), uD, Nat.min_eq_left hl]
   by_cases e2 : j = n
   ·subst e2; simp
   ·rw [if_neg e2, uS (by simp; omega)]; rfl
 constructor
 ·rintro ⟨j, hj, q1, q2⟩
  rw [hg h1] at q1
  rw [hg h2] at q2
  by_cases e : j < n
  ·rw [if_pos e] at q1 q2; exact .inl ⟨j, e, q1, q2⟩
  ·rw [if_neg e, if_pos (by omega)] at q1 q2; exact .inr ⟨q1.symm, q2.symm⟩
 ·rintro (⟨j, hj, q1, q2⟩ | ⟨rfl, rfl⟩)
  ·exact ⟨j, by omega, by rw [hg h1, if_pos hj]; exact q1, by rw [hg h2, if_pos hj]; exact q2⟩
  ·exact ⟨n, by omega, by rw [hg h1, if_neg (by omega), if_pos rfl], by rw [hg h2, if_neg (by omega), if_pos rfl]⟩
theorem tdiv2 {i : Nat} (h : 0 < i) : ((i : Int) - 1).tdiv 2 = (((i - 1) / 2 : Nat) : Int) := by
 rw [Int.tdiv_eq_ediv_of_nonneg (by omega)]
 omega
abbrev pat39 (n : Nat) (g : Nat × List Int × List Int) : St := ⟨[(6, .i g.1), (0, .ptr 0 0 0)], hpB (n + 1) g.2.1 g.2.2, 0⟩
theorem body39 (n : Nat) (ks vs : List Int) (key val : Int) (hn : n ≤ 8796093022208) {RR : St → Prop} {X : Nat → St → Prop} (hX : ∀ g, PushQ n ks vs key val g → ∀ e b, X 0 ⟨e, hpB (n + 1) g.1 g.2, b⟩)
  (g : Nat × List Int × List Int) (hg : g.1 ≤ n ∧ PushQ n ks vs key val g.2) :
  aw (cxN Try.prog [0]) c88l0 (fun s' => ∃ g' : Nat × List Int × List Int, ((g'.1 ≤ n ∧ PushQ n ks vs key val g'.2) ∧ g'.1 < g.1) ∧ leS [0] s' (pat39 n g')) X RR (pat39 n g) := by
 obtain ⟨i, a, c⟩ := g
 obtain ⟨hi0, q1, q2, q3⟩ := hg
 simp only at hi0 q1 q2 q3
 have hex : ∀ e b, X 0 ⟨e, hpB (n + 1) a c, b⟩ := fun e b => hX (a, c) ⟨q1, q2, q3⟩ e b
 unfold c88l0 pat39 hpB
 unfold hpB at hex
 simp -implicitDefEqProofs only [rX,↓rY,rZ,ofConst,↓reduceIte,Nat.reduceEqDiff,arrSz,Nat.reduceAdd,reduceCtorEq,cxN]
 simp only [br, decide_eq_true_eq, decide_eq_false_iff_not]
 refine ⟨fun h0 => ?_, fun h0 => hex _ _⟩
 rw [tdiv2 (by omega)]
 have hi2 : (i - 1) / 2 < i := by omega
 refine ⟨⟨by omega, by omega⟩, by omega, by simp only [lo, hi, maxLen] at *; omega, by omega, by simp only [lo, hi, maxLen] at *; omega, ⟨by omega, by omega⟩, by simp; omega, fun hlt => ?_, fun _ => hex _ _⟩
 refine ⟨by simp only [lo, hi, maxLen] at *; omega, by omega, by simp only [lo, hi, maxLen] at *; omega, ?_⟩
 refine call_isN [0, 1, 2] [.ptr 0 0 0, .i i, .i ((i - 1) / 2 : Nat)] (.tup []) (.tup []) (hpB (n + 1) a c) (hpB (n + 1) (sw a i ((i - 1) / 2)) (sw c i ((i - 1) / 2))) (hpB (n + 1) (sw a i ((i - 1) / 2)) (sw c i ((i - 1) / 2)))
  (ok107 (n + 1) a c i ((i - 1) / 2) (by omega) (by omega) (by omega) (by omega)) (by simp) rfl (by simp [lendsOk, lendOk, lends, lend, wkL, wk, pos]) (by simp [hpB]) rfl rfl ⟨trivial, trivial⟩ ?_
 unfold hpB
 simp -implicitDefEqProofs only [rX,↓rY,ofConst,↓reduceIte,Nat.reduceEqDiff,Nat.reduceAdd,reduceCtorEq,leE,leH,leB,leV,leVs,keepP,liveP,wfE,wfB,wfV,wfL]
 rw [tdiv2 (by omega)]
 refine ⟨by simp only [lo, hi, maxLen] at *; omega, by omega, by simp only [lo, hi, maxLen] at *; omega, ((i - 1) / 2, sw a i ((i - 1) / 2), sw c i ((i - 1) / 2)), ⟨⟨by show (i - 1) / 2 ≤ n; omega, ⟨?_, ?_, fun x y => ?_⟩⟩, hi2⟩, ?_⟩
 ·show (sw a i ((i - 1) / 2)).length = n + 1
  rw [sw_len]; exact q1
 ·show (sw c i ((i - 1) / 2)).length = n + 1
  rw [sw_len]; exact q2
 ·exact (ent_sw (by omega) (by omega) (by omega) (by omega) x y).trans (q3 x y)
 ·exact ⟨rfl, rfl, rfl⟩
theorem core39 (n : Nat) (ks vs : List Int) (key val : Int) (h1 : n ≤ ks.length) (h2 : n ≤ vs.length) (hn : n ≤ 8796093022208) {RR : St → Prop} (hR : ∀ g, PushQ n ks vs key val g → ∀ e b, RR ⟨e, hpB (n + 1) g.1 g.2, b⟩) :
  aw (cxN Try.prog [0]) c88 RR (fun _ _ => False) RR ⟨args0 0 [.ptr 0 0 0, .i key, .i val], hpB n ks vs, 0⟩ := by
 unfold c88 hpB
 have t1 : yS n (ks.map encI) ++ [[V.i key]] = (ks.take n ++ [key]).map encI := by rw [vH, uQ]; rfl
 have t2 : yS n (vs.map encI) ++ [[V.i val]] = (vs.take n ++ [val]).map encI := by rw [vH, uQ]; rfl
 have l1 : (ks.take n ++ [key]).length = n + 1 := by simp; omega
 have l2 : (vs.take n ++ [val]).length = n + 1 := by simp; omega
 simp -implicitDefEqProofs only [rX,↓rY,rdK,ofConst,cells?,splice,↓reduceIte,Nat.reduceEqDiff,Nat.reduceAdd,reduceCtorEq,freshP,litsP,killE,killB,kill,kills,St.kill,isD,isC,Nat.reduceLT,Nat.reduceLeDiff,cxN,args0,t1,t2]
 have he := ent_snoc h1 h2 key val
 generalize ks.take n ++ [key] = ks' at *
 generalize vs.take n ++ [val] = vs' at *
 repeat' (first | omega | refine And.intro ?_ ?_ | refine fun hm => ?_)
 all_goals first | (simp only [lo, hi, maxLen] at *; omega) | skip
 all_goals
  refine loopP_intro (pat39 n) (fun g => g.1 ≤ n ∧ PushQ n ks vs key val g.2) (fun g => g.1) (n, ks', vs') ⟨yE _, l1, l2, he⟩ ?_ (body39 n ks vs key val hn (fun g hg e b => hR g hg e b))
  unfold pat39 hpB
  simp -implicitDefEqProofs only [rX,↓reduceIte,reduceCtorEq,leE,leH,leB,leV,leVs,keepP,liveP,wfE,wfB,wfV,wfL]
  omega
theorem ok88 (n : Nat) (ks vs : List Int) (key val : Int) (h1 : n ≤ ks.length) (h2 : n ≤ vs.length) (hn : n ≤ 8796093022208) :
  OkN Try.prog 88 [.ptr 0 0 0, .i key, .i val] (hpB n ks vs) [1, 2] (IsQ (PushQ n ks vs key val) (fun _ => .tup []) (fun g => hpB (n + 1) g.1 g.2)) := by
 refine okN_of pol [0] lw88 (by simp) ⟨trivial, trivial⟩ (by simp [hpB]; omega) ?_
 refine core39 n ks vs key val h1 h2 hn fun g hg e b => ?_
 refine retP_isQ g hg ?_
 unfold hpB
 simp -implicitDefEqProofs only [rX,Nat.reduceAdd,resP,tupV,leH,leB,leV,leVs,keepP,liveP,wfB,wfV,wfL]
end Go.Fx.P.K
namespace Go.Fx.P.K
open Go Go.Fx Go.Proofs
set_option maxRecDepth 20000
theorem ent_last {n : Nat} {ks vs : List Int} (hn : 0 < n) (a b : Int) : EntH n ks vs a b ↔ (EntH (n - 1) ks vs a b ∨ (a = ks.getD (n - 1) 0 ∧ b = vs.getD (n - 1) 0)) := by
 constructor
 ·rintro ⟨j, hj, q1, q2⟩
  by_cases e : j = n - 1
  ·subst e; exact .inr ⟨q1.symm, q2.symm⟩
  ·exact .inl ⟨j, by omega, q1, q2⟩
 ·rintro (⟨j, hj, q1, q2⟩ | ⟨q1, q2⟩)
  ·exact ⟨j, by omega, q1, q2⟩
  ·exact ⟨n - 1, by omega, q1.symm, q2.symm⟩
structure PopI (n : Nat) (E : Int → Int → Prop) (ks vs : List Int) : Prop where
 h1 : n ≤ ks.length
 h2 : n ≤ vs.length
 he : ∀ a b, EntH n ks vs a b ↔ E a b
structure PopQ (n : Nat) (ks vs : List Int) (g : (Int × Int) × List Int × List Int) : Prop where
 hin : EntH n ks vs g.1.1 g.1.2
 h1 : n - 1 ≤ g.2.1.length
 h2 : n - 1 ≤ g.2.2.length
 he : ∀ a b, EntH n ks vs a b ↔ (EntH (n - 1) g.2.1 g.2.2 a b ∨ (a = g.1.1 ∧ b = g.1.2))
def e40 (key v : Int) (last i least : Nat) : Env := [(8, .i least), (7, .i i), (6, .i last), (5, .i v), (4, .i key), (0, .ptr 0 0 0)]
def h40 (last i : Nat) (ks vs : List Int) : List Blk := hpB last ks vs ++ [.arr 1 [[.i (2 * i + 1)], [.i (2 * i + 2)]]]
abbrev pat40i (key v : Int) (last i : Nat) (ks vs : List Int) (g : Nat × Nat) : St := ⟨(59, .i g.1) :: (58, .i 2) :: (57, .sl 3 0 2) :: e40 key v last i g.2, h40 last i ks vs, 0⟩
theorem body40i (key v : Int) (last i : Nat) (ks vs : List Int) (hl : last ≤ 8796093022208) (hi0 : i ≤ last) (h1 : last ≤ ks.length) (h2 : last ≤ vs.length) {RR : St → Prop} {X : Nat → St → Prop}
  (hX : ∀ least : Nat, (least = i ∨ (i < least ∧ least < last)) → ∀ y z b, X 2 ⟨(60, y) :: (59, z) :: (58, .i 2) :: (57, .sl 3 0 2) :: e40 key v last i least, h40 last i ks vs, b⟩)
  (g : Nat × Nat) (hg : g.1 ≤ 2 ∧ (g.2 = i ∨ (i < g.2 ∧ g.2 < last))) :
  aw (cxN Try.prog [0, 1, 2]) c89l1 (fun s' => ∃ g' : Nat × Nat, ((g'.1 ≤ 2 ∧ (g'.2 = i ∨ (i < g'.2 ∧ g'.2 < last))) ∧ 2 - g'.1 < 2 - g.1) ∧ leS [0, 1, 2] s' (pat40i key v last i ks vs g')) X RR (pat40i key v last i ks vs g) := by
 obtain ⟨j, least⟩ := g
 obtain ⟨hj, hleast⟩ := hg
 simp only at hj hleast
 unfold c89l1 pat40i e40 h40 hpB
 have hex := hX least hleast
 unfold e40 h40 hpB at hex
 have hj3 : j = 0 ∨ j = 1 ∨ j = 2 := by omega
 have t1 : ((2 : Int) * i + 1).toNat = 2 * i + 1 := by omega
 have t2 : ((2 : Int) * i + 2).toNat = 2 * i + 2 := by omega
 rcases hj3 with rfl | rfl | rfl
 ·simp -implicitDefEqProofs only [rX,↓rY,rZ,ofConst,↓reduceIte,Nat.reduceEqDiff,arrSz,Nat.reduceAdd,reduceCtorEq,leE,leH,leB,leV,leVs,keepP,liveP,wfE,wfB,wfV,wfL,cxN,yI]
  simp only [br, decide_eq_true_eq, decide_eq_false_iff_not, lo, hi, maxLen] at *
  refine ⟨fun _ => ⟨⟨by omega, by omega⟩, by simp, ?_⟩, fun h => absurd h (by decide)⟩
  simp only [uK, xD, uC, qaj, kQ, t1]
  refine ⟨trivial, fun hlt => ⟨⟨by omega, by omega⟩, by omega, ⟨by omega, by omega⟩, by omega, fun _ => ⟨by omega, (1, 2 * i + 1), ⟨⟨by simp, by right; show i < 2 * i + 1 ∧ 2 * i + 1 < last; omega⟩, by simp⟩, by simp, by simp⟩, fun _ => ⟨by omega, (1, least), ⟨⟨by simp, hleast⟩, by simp⟩, by simp, rfl⟩⟩,
   fun hge => ⟨by omega, (1, least), ⟨⟨by simp, hleast⟩, by simp⟩, by simp, rfl⟩⟩
 ·simp -implicitDefEqProofs only [rX,↓rY,rZ,ofConst,↓reduceIte,Nat.reduceEqDiff,arrSz,Nat.reduceAdd,reduceCtorEq,leE,leH,leB,leV,leVs,keepP,liveP,wfE,wfB,wfV,wfL,cxN,Int.natCast_one]
  simp only [br, decide_eq_true_eq, decide_eq_false_iff_not, lo, hi, maxLen] at *
  refine ⟨fun _ => ⟨⟨by omega, by omega⟩, by simp, ?_⟩, fun h => absurd h (by decide)⟩
  simp only [Int.toNat_one, xD, List.getElem_cons_succ, uC, qaj, kQ, t2]
  refine ⟨trivial, fun hlt => ⟨⟨by omega, by omega⟩, by omega, ⟨by omega, by omega⟩, by omega, fun _ => ⟨by omega, (2, 2 * i + 2), ⟨⟨by simp, by right; show i < 2 * i + 2 ∧ 2 * i + 2 < last; omega⟩, by simp⟩, by simp, by simp⟩, fun _ => ⟨by omega, (2, least), ⟨⟨by simp, hleast⟩, by simp⟩, by simp, rfl⟩⟩,
   fun hge => ⟨by omega, (2, least), ⟨⟨by simp, hleast⟩, by simp⟩, by simp, rfl⟩⟩
 ·simp -implicitDefEqProofs only [rX,↓rY,rZ,ofConst,↓reduceIte,Nat.reduceEqDiff,arrSz,Nat.reduceAdd,reduceCtorEq,leE,leH,leB,leV,leVs,keepP,liveP,wfE,wfB,wfV,wfL,Nat.reduceLT,cxN]
  simp only [br, decide_eq_true_eq, decide_eq_false_iff_not, lo, hi, maxLen] at *
  exact ⟨fun h => absurd h (by decide), fun _ => hex _ _ _⟩
abbrev pat40o (key v : Int) (last : Nat) (g : Nat × List Int × List Int) : St := ⟨[(7, .i g.1), (6, .i last), (5, .i v), (4, .i key), (0, .ptr 0 0 0)], hpB last g.2.1 g.2.2, 0⟩
theorem body40o (key v : Int) (last : Nat) (E : Int → Int → Prop) (hl : last ≤ 8796093022208) {RR : St → Prop} {X : Nat → St → Prop} (hR : ∀ ks vs, PopI last E ks vs → ∀ e h b, RR ⟨(3, .i v) :: (2, .i key) :: e, hpB last ks vs ++ h, b⟩)
  (g : Nat × List Int × List Int) (hg : g.1 ≤ last ∧ PopI last E g.2.1 g.2.2) :
  aw (cxN Try.prog [0, 1, 2]) c89l0 (fun s' => ∃ g' : Nat × List Int × List Int, ((g'.1 ≤ last ∧ PopI last E g'.2.1 g'.2.2) ∧ last - g'.1 < last - g.1) ∧ leS [0, 1, 2] s' (pat40o key v last g')) X RR (pat40o key v last g) := by
 obtain ⟨i, ks, vs⟩ := g
 obtain ⟨hi0, hP⟩ := hg
 simp only at hi0 hP
 have hRp := hR ks vs hP
 unfold hpB at hRp
 unfold c89l0 pat40o hpB
 simp -implicitDefEqProofs only [rX,↓rY,ofConst,cells?,↓reduceIte,Nat.reduceEqDiff,Nat.reduceAdd,freshP,litsP,isD,Nat.reduceLT,cxN]
 refine ⟨by simp only [lo, hi]; omega, by simp only [lo, hi]; omega, by simp only [lo, hi]; omega, by simp only [lo, hi]; omega, ?_⟩
 intro _
 refine loopP_intro (pat40i key v last i ks vs) (fun g => g.1 ≤ 2 ∧ (g.2 = i ∨ (i < g.2 ∧ g.2 < last))) (fun g => 2 - g.1) (0, i) ⟨by simp, .inl rfl⟩ ?_ (body40i key v last i ks vs hl hi0 hP.h1 hP.h2 ?_)
 ·unfold pat40i e40 h40 hpB
  simp -implicitDefEqProofs only [rX,↓reduceIte,Nat.reduceEqDiff,reduceCtorEq,leE,leH,leB,leV,leVs,keepP,liveP,wfE,wfB,wfV,wfL,yI]
  rfl
 intro least hleast y z b
 unfold e40 h40 hpB
 simp -implicitDefEqProofs only [rX,↓rY,↓reduceIte,Nat.reduceEqDiff,Nat.reduceAdd,reduceCtorEq]
 simp only [br, beq_iff_eq, beq_eq_false_iff_ne]
 refine ⟨fun h => hRp _ [_] _, fun h => ?_⟩
 have hne : least ≠ i := by omega
 have hlt : i < least ∧ least < last := by omega
 refine call_isN [0, 1, 2] [.ptr 0 0 0, .i i, .i least] (.tup []) (.tup []) (hpB last ks vs) (hpB last (sw ks i least) (sw vs i least)) (hpB last (sw ks i least) (sw vs i least) ++ [.arr 1 [[.i (2 * i + 1)], [.i (2 * i + 2)]]])
  (ok107 last ks vs i least (by omega) (by omega) hP.h1 hP.h2) (by simp) rfl (by simp [lendsOk, lendOk, lends, lend, wkL, wk, pos]) (by simp [hpB]) rfl rfl (by simp [keepP, liveP, hpB]) ?_
 unfold hpB
 simp -implicitDefEqProofs only [rX,↓reduceIte,Nat.reduceEqDiff,Nat.reduceAdd,reduceCtorEq,leE,leH,leB,leV,leVs,keepP,liveP,wfE,wfB,wfV,wfL]
 refine ⟨(least, sw ks i least, sw vs i least), ⟨⟨by show least ≤ last; omega, ⟨by rw [sw_len]; exact hP.h1, by rw [sw_len]; exact hP.h2, fun a b => ?_⟩⟩, by show last - least < last - i; omega⟩, rfl, rfl, rfl⟩
 exact (ent_sw (by omega) (by omega) hP.h1 hP.h2 a b).trans (hP.he a b)
theorem ok89 (n : Nat) (ks vs : List Int) (h0 : 0 < n) (h1 : n ≤ ks.length) (h2 : n ≤ vs.length) (hn : n ≤ 8796093022208) :
  OkN Try.prog 89 [.ptr 0 0 0] (hpB n ks vs) [] (IsQ (PopQ n ks vs) (fun g => .tup [.i g.1.1, .i g.1.2]) (fun g => hpB (n - 1) g.2.1 g.2.2)) := by
 refine okN_of pol [0, 1, 2] lw89 (by simp) ⟨trivial, trivial, trivial, trivial⟩ (by simp [hpB]; omega) ?_
 unfold c89 hpB
 have hn1 : ((n : Int) - 1) = ((n - 1 : Nat) : Int) := by omega
 simp -implicitDefEqProofs only [rX,↓rY,rZ,ofConst,↓reduceIte,Nat.reduceEqDiff,arrSz,Nat.reduceAdd,reduceCtorEq,cxN,args0,hn1]
 refine ⟨⟨by omega, by omega⟩, by simp; omega, ⟨by omega, by omega⟩, by simp; omega, fun _ => ⟨by simp only [lo, hi, maxLen] at *; omega, ?_⟩⟩
 refine call_isN [0, 1, 2] [.ptr 0 0 0, .i 0, .i (n - 1 : Nat)] (.tup []) (.tup []) (hpB n ks vs) (hpB n (sw ks 0 (n - 1)) (sw vs 0 (n - 1))) (hpB n (sw ks 0 (n - 1)) (sw vs 0 (n - 1)))
  (ok107 n ks vs 0 (n - 1) (by omega) (by omega) h1 h2) (by simp) rfl (by simp [lendsOk, lendOk, lends, lend, wkL, wk, pos]) (by simp [hpB]) rfl rfl ⟨trivial, trivial, trivial, trivial⟩ ?_
 have k1 : n ≤ (sw ks 0 (n - 1)).length := by rw [sw_len]; exact h1
 have k2 : n ≤ (sw vs 0 (n - 1)).length := by rw [sw_len]; exact h2
 have g1 : (sw ks 0 (n - 1)).getD (n - 1) 0 = ks.getD 0 0 := by rw [sw_get (by omega) (by omega), if_pos rfl]
 have g2 : (sw vs 0 (n - 1)).getD (n - 1) 0 = vs.getD 0 0 := by rw [sw_get (by omega) (by omega), if_pos rfl]
 have hE : ∀ a b, EntH n ks vs a b ↔ (EntH (n - 1) (sw ks 0 (n - 1)) (sw vs 0 (n - 1)) a b ∨ (a = ks.getD 0 0 ∧ b = vs.getD 0 0)) := by
  intro a b
  rw [← ent_sw (n := n) (ks := ks) (vs := vs) (i := 0) (k := n - 1) (by omega) (by omega) h1 h2, ent_last h0, g1, g2]
 generalize sw ks 0 (n - 1) = ks1 at *
 generalize sw vs 0 (n - 1) = vs1 at *
 have e1 : ks.getD 0 0 = ks[yO 0]'(by simp; omega) := getD_nat (by omega)
 have e2 : vs.getD 0 0 = vs[yO 0]'(by simp; omega) := getD_nat (by omega)
 rw [e1, e2] at hE
 have hin : EntH n ks vs (ks[yO 0]'(by simp; omega)) (vs[yO 0]'(by simp; omega)) := ⟨0, h0, e1, e2⟩
 generalize ks[yO 0]'(by simp; omega) = key at *
 generalize vs[yO 0]'(by simp; omega) = v at *
 unfold hpB
 simp -implicitDefEqProofs only [rX,↓rY,rdK,ofConst,cells?,splice,↓reduceIte,Nat.reduceEqDiff,arrSz,Nat.reduceAdd,reduceCtorEq,slcOk,isC,Nat.reduceLeDiff]
 refine ⟨by omega, by omega, ?_⟩
 refine loopP_intro (pat40o key v (n - 1)) (fun g => g.1 ≤ n - 1 ∧ PopI (n - 1) (EntH (n - 1) ks1 vs1) g.2.1 g.2.2) (fun g => n - 1 - g.1) (0, ks1, vs1) ⟨by simp, by show n - 1 ≤ ks1.length; omega, by show n - 1 ≤ vs1.length; omega, fun a b => Iff.rfl⟩ ?_ (body40o key v (n - 1) _ (by omega) fun ks' vs' hP e h b => ?_)
 ·unfold pat40o hpB
  simp -implicitDefEqProofs only [rX,↓reduceIte,Nat.reduceEqDiff,reduceCtorEq,leE,leH,leB,leV,leVs,keepP,liveP,wfE,wfB,wfV,wfL,yI]
  exact ⟨rfl, rfl⟩
 refine retP_isQ ((key, v), ks', vs') ⟨hin, hP.h1, hP.h2, fun a b => ?_⟩ ?_
 ·rw [hE a b, ← hP.he a b]
 unfold hpB
 simp -implicitDefEqProofs only [rX,↓reduceIte,Nat.reduceEqDiff,Nat.reduceAdd,resP,tupV,leH,leB,leV,leVs,keepP,liveP,wfB,wfV,wfL]
end Go.Fx.P.K
