import Derived.Test.YtemlboicdekgbaaFxRunSound
import Derived.Test.YtemlboicdekgbaaPSan
import Derived.Test.YtemlboicdekgbaaFxRun
set_option linter.unusedVariables false
set_option linter.unusedSimpArgs false
set_option linter.unusedSectionVars false
open List renaming getD_eq_getElem?_getD → yA, getElem?_eq_getElem → yB, getElem_mem → yD, take → yE, map_append → yF, mem_cons_self → yH, mem_map → yI, mem_range → yJ, append_nil → yK, take_of_length_le → yL, mem_cons_of_mem → yM, getElem_of_mem → yN, length_append → yO, range → yP, map_map → yQ, length_nil → yT, length_map → yV, length_cons → yW, length_drop → yX, replicate → yY, ext_getElem → yZ, nodup_iff_pairwise_ne → vA, length_range → vB, map_cons → vC, append_assoc → vD, drop → vE, mem_singleton → vF, getElem_map → vI, map_nil → vJ, take_length → vK, getElem?_append_left → vM, getElem?_append_right → vN, filter_append → vO, pairwise_map → vQ, findIdx?_eq_some_iff_getElem → vR, findIdx?_eq_none_iff → vS, length → vT, drop_sublist → vU, mem_of_mem_drop → vV, foldl_nil → vW, take_add_one → vX, map_congr_left → uA, mem_of_getElem? → uC, mem_append → uD, getElem_append_left → uF, mem_cons → uH, getElem_set → uJ, set_append_right → uK, nodup_cons → uL, length_pos_iff → uM, range_succ → uN, mem_flatten → uO, filter_eq_self → uT, take_succ_eq_append_getElem → uU, getElem?_eq_none → uV, mem_map_of_mem → uW, mem_of_find?_eq_some → uX, mem_of_mem_take → uY
open Int renaming natCast_zero → yC, toNat_of_nonneg → vH, toNat → vP, le_refl → uE, toNat_natCast → uG, ofNat_eq_natCast → uS
open Nat renaming le_refl → yG, zero_le → vZ, reduceBEq → uP
open Option renaming getD_some → yS, toList_some → vY
open Prod.mk renaming injEq → yU
open List.Nodup renaming sublist → vG
open Bool renaming and_eq_true → vL, false_eq_true → uI
open Option.some renaming injEq → uB
open List.Pairwise renaming imp → uQ
open Int.ofNat renaming inj → uR
namespace Go.Fx.P
open Go Go.Fx Go.Proofs
set_option maxRecDepth 20000
theorem san10 : Ok 10 [] (Is (.b true)) := san
theorem s10 {cx : Cx} {e : Env} {h : List Blk} {b : Nat} {K : V → St → Prop} : cx.C = C0 Try.prog → cx.fx = [] → K (.b true) ⟨e, h, b⟩ → callP cx 10 [] ⟨e, h, b⟩ K := by
 intro hc hf hk
 exact call_is (by rw [hc]; exact san10) (by simp [lendsOk, lends, wkL]) rfl (by rw [hf]; trivial) hk
theorem chk_caps {ps : List Spot} {rs : List Road} (h : chkP ps rs = 0) : (ps.length ≤ 100 ∧ rs.length ≤ 1500) ∧ CapsOk ps ∧ RInv ps rs rs.length := by
 unfold chkP at h
 by_cases h1 : 100 < ps.length ∨ 1500 < rs.length
 ·rw [if_pos h1] at h; cases h
 rw [if_neg h1] at h
 by_cases h2 : firstE (eAt ps) ps.length 0 ≠ 0
 ·rw [if_pos h2] at h; exact absurd h h2
 rw [if_neg h2] at h
 by_cases h3 : ∀ r ∈ rs, SoundP ps r
 ·refine ⟨by omega, ?_, ⟨fun j hj _ => h3 _ (yD hj)⟩⟩
  have key : ∀ n i, i ≤ n → i < ps.length → eAt ps i = 0 := by
   intro n
   induction n with
   | zero =>
    intro i hi hil
    by_cases h4 : eAt ps i = 0
    ·exact h4
    ·exact absurd (firstE_at (n := ps.length) (k := 0) (by omega) (by omega) (fun j _ hj => by omega) h4) (by simp only [ne_eq, Classical.not_not] at h2; rw [h2]; exact fun h5 => h4 h5.symm)
   | succ n ih =>
    intro i hi hil
    by_cases h4 : eAt ps i = 0
    ·exact h4
    ·exact absurd (firstE_at (n := ps.length) (k := 0) (by omega) (by omega) (fun j _ hj => ih j (by omega) (by omega)) h4) (by simp only [ne_eq, Classical.not_not] at h2; rw [h2]; exact fun h5 => h4 h5.symm)
  intro i hi
  have := key i i (by omega) hi
  rw [eAt_lt hi] at this
  by_cases h4 : rightB ps[i] = false
  ·rw [if_pos h4] at this; cases this
  ·have h5 : RightP ps[i] := by simpa [rightB] using h4
   exact h5.1
 ·rw [if_neg h3] at h; cases h
abbrev tPl : Fx.T := .st [.sl 3 (.st [.int .i64, .int .i64, .int .i64]), .sl 4 (.st [.int .i64, .int .i64, .int .i64, .int .i64])]
theorem fn_of' {f : FuncId} {xs : List V} (h : Ok f xs (Is (.b true))) : Fn Try.prog f xs [] [] (fun r _ => r = .b true) := (okN_post h fun r h' hr => hr.1).2
theorem exM {α β : Type} {g : α → β} : ∀ {els : List β}, (∀ x ∈ els, ∃ a, x = g a) → ∃ l : List α, els = l.map g
 | [], _ => ⟨[], rfl⟩
 | x :: r, h => by
  obtain ⟨a, rfl⟩ := h x yH
  obtain ⟨l, rfl⟩ := exM (els := r) fun y hy => h y (yM _ hy)
  exact ⟨a :: l, rfl⟩
theorem wf_sp {x : List V} (h : WfT (.st [.int .i64, .int .i64, .int .i64]) x) : ∃ a : Spot, x = a.enc := by
 simp only [WfT, WfTs] at h
 obtain ⟨_, _, rfl, ⟨a, rfl, _⟩, _, _, rfl, ⟨b, rfl, _⟩, _, _, rfl, ⟨c, rfl, _⟩, rfl⟩ := h
 exact ⟨⟨a, b, c⟩, rfl⟩
theorem wf_rd {x : List V} (h : WfT (.st [.int .i64, .int .i64, .int .i64, .int .i64]) x) : ∃ a : Road, x = a.enc := by
 simp only [WfT, WfTs] at h
 obtain ⟨_, _, rfl, ⟨a, rfl, _⟩, _, _, rfl, ⟨b, rfl, _⟩, _, _, rfl, ⟨c, rfl, _⟩, _, _, rfl, ⟨d, rfl, _⟩, rfl⟩ := h
 exact ⟨⟨a, b, c, d⟩, rfl⟩
theorem wf_plant {x : V} (h : WfV tPl x) : ∃ ps rs, x = plant ps rs := by
 simp only [WfV] at h
 obtain ⟨cs, h, rfl⟩ := h
 rw [WfTs.eq_2] at h
 obtain ⟨a, b, rfl, h1, h2⟩ := h
 rw [WfTs.eq_2] at h2
 obtain ⟨c, d, rfl, h3, h4⟩ := h2
 rw [WfTs.eq_1] at h4
 subst h4
 rw [WfT] at h1
 obtain ⟨els, rfl, _, he⟩ := h1
 obtain ⟨ps, rfl⟩ := exM (fun x hx => wf_sp (he x hx))
 rw [WfT] at h3
 obtain ⟨els, rfl, _, he⟩ := h3
 obtain ⟨rs, rfl⟩ := exM (fun x hx => wf_rd (he x hx))
 exact ⟨ps, rs, rfl⟩
end Go.Fx.P
namespace Go.Fx.P.K
open Go Go.Fx Go.Proofs
set_option maxRecDepth 20000
def nodeB (n k : Int) : Bool := decide (0 ≤ k ∧ k < n)
theorem ok96 (n : Int) (arcs : List Arc) (k : Int) : Ok 96 [net n arcs, .i k] (Is (.b (nodeB n k))) := by
 refine ok_of lw96 (by simp) ?_
 unfold c96 net
 simp -implicitDefEqProofs only [rX,↓rY,ofConst,cells?,↓reduceIte,Nat.reduceEqDiff,reduceCtorEq,freshP,resP,tupV,wfV,cxN,args0]
 simp only [br, decide_eq_true_eq, decide_eq_false_iff_not, nodeB]
 grind
def nb (n : Int) (arcs : List Arc) : Blk := .var [.i n, .ro 4 (arcs.map Arc.enc)]
end Go.Fx.P.K
namespace Go.Fx.P.K
open Go Go.Fx Go.Proofs
set_option maxRecDepth 20000
def validA (n : Int) (a : Arc) : Bool := nodeB n a.from_ && (nodeB n a.to && decide (a.from_ ≠ a.to ∧ 0 ≤ a.cap ∧ a.cap ≤ 1073741824 ∧ 0 ≤ a.cost ∧ a.cost ≤ 1048576))
def checkI (n : Int) (arcs : List Arc) : Int := if 256 < n ∨ 2048 < arcs.length then 2 else if n < 1 then 1 else if arcs.all (validA n) then 0 else 1
theorem checkI_0 {n : Int} {arcs : List Arc} (h : ¬ (256 < n ∨ 2048 < arcs.length)) (h1 : ¬ n < 1) (h2 : ∀ k (h : k < arcs.length), validA n arcs[k] = true) : checkI n arcs = 0 := by
 have : arcs.all (validA n) = true := by
  rw [List.all_eq_true]
  intro a ha
  obtain ⟨j, hj, rfl⟩ := yN ha
  exact h2 j hj
 simp only [checkI, if_neg h, if_neg h1, this, if_true]
end Go.Fx.P.K
namespace Go.Fx.P.K
open Go Go.Fx Go.Proofs
set_option maxRecDepth 20000
structure Val (N : Nat) (arcs : List Arc) : Prop where
 hn : 1 ≤ N ∧ N ≤ 256
 hl : arcs.length ≤ 2048
 ha : ∀ a ∈ arcs, (0 ≤ a.from_ ∧ a.from_ < N) ∧ (0 ≤ a.to ∧ a.to < N) ∧ a.from_ ≠ a.to ∧ (0 ≤ a.cap ∧ a.cap ≤ 1073741824) ∧ 0 ≤ a.cost ∧ a.cost ≤ 1048576
theorem Val.of {n : Int} {arcs : List Arc} (h : checkI n arcs = 0) : ∃ N : Nat, n = N ∧ Val N arcs := by
 unfold checkI at h
 split at h
 ·cases h
 ·split at h
  ·cases h
  ·split at h
   ·rename_i h1 h2 h3
    refine ⟨n.toNat, by omega, by omega, by omega, fun a ha => ?_⟩
    rw [List.all_eq_true] at h3
    have := h3 a ha
    simp only [validA, nodeB, vL, decide_eq_true_eq] at this
    omega
   ·cases h
theorem Val.chk {N : Nat} {arcs : List Arc} (h : Val N arcs) : checkI N arcs = 0 := by
 obtain ⟨h1, h2, h3⟩ := h
 refine checkI_0 (by omega) (by omega) fun k hk => ?_
 have := h3 _ (yD hk)
 simp only [validA, nodeB, vL, decide_eq_true_eq]
 omega
def possP (arcs : List Arc) (flow : List Int) : Prop := ∀ i (h1 : i < flow.length) (h2 : i < arcs.length), 0 ≤ flow[i] ∧ flow[i] ≤ arcs[i].cap
theorem Val.flow {N : Nat} {arcs : List Arc} (h : Val N arcs) {flow : List Int} (hl : flow.length = arcs.length) (hp : possP arcs flow) : ∀ x ∈ flow, 0 ≤ x ∧ x ≤ 1073741824 := by
 intro x hx
 obtain ⟨i, hi, rfl⟩ := yN hx
 have h1 := hp i hi (by omega)
 have h2 := (h.ha arcs[i] (yD _))
 omega
def valTo (arcs : List Arc) (node : Int) (flow : List Int) : Nat → Int
 | 0 => 0
 | k + 1 => valTo arcs node flow k + (if (arcs.getD k ⟨0,0,0,0⟩).from_ = node then flow.getD k 0 else 0) - (if (arcs.getD k ⟨0,0,0,0⟩).to = node then flow.getD k 0 else 0)
theorem flow_b {flow : List Int} (hf : ∀ x ∈ flow, 0 ≤ x ∧ x ≤ 1073741824) (k : Nat) : 0 ≤ flow.getD k 0 ∧ flow.getD k 0 ≤ 1073741824 := by
 rw [yA]
 cases h : flow[k]? with
 | none => simp
 | some x => exact hf x (uC h)
theorem valTo_bound (arcs : List Arc) (node : Int) (flow : List Int) (hf : ∀ x ∈ flow, 0 ≤ x ∧ x ≤ 1073741824) : ∀ k : Nat, -((k : Int) * 1073741824) ≤ valTo arcs node flow k ∧ valTo arcs node flow k ≤ (k : Int) * 1073741824
 | 0 => by simp [valTo]
 | k + 1 => by
  have h1 := valTo_bound arcs node flow hf k
  have h2 := flow_b hf k
  simp only [valTo]
  split <;> split <;> omega
theorem valTo_step {arcs : List Arc} {node : Int} {flow : List Int} {k : Nat} (h1 : k < arcs.length) (h2 : k < flow.length) : valTo arcs node flow (k + 1) = valTo arcs node flow k + (if arcs[k].from_ = node then flow[k] else 0) - (if arcs[k].to = node then flow[k] else 0) := by
 simp only [valTo, yA, yB h1, yB h2, yS]
def totTo (arcs : List Arc) (flow : List Int) : Nat → Int
 | 0 => 0
 | k + 1 => totTo arcs flow k + flow.getD k 0 * (arcs.getD k ⟨0,0,0,0⟩).cost
theorem totTo_step {arcs : List Arc} {flow : List Int} {k : Nat} (h1 : k < arcs.length) (h2 : k < flow.length) : totTo arcs flow (k + 1) = totTo arcs flow k + flow[k] * arcs[k].cost := by
 simp only [totTo, yA, yB h1, yB h2, yS]
theorem mul_b {a b : Int} (h1 : 0 ≤ a ∧ a ≤ 1073741824) (h2 : 0 ≤ b ∧ b ≤ 1048576) : 0 ≤ a * b ∧ a * b ≤ 1125899906842624 := by
 refine ⟨Int.mul_nonneg h1.1 h2.1, ?_⟩
 have := Int.mul_le_mul h1.2 h2.2 h2.1 (by omega)
 omega
theorem totTo_bound (arcs : List Arc) (flow : List Int) (hf : ∀ x ∈ flow, 0 ≤ x ∧ x ≤ 1073741824) (ha : ∀ a ∈ arcs, 0 ≤ a.cost ∧ a.cost ≤ 1048576) : ∀ k : Nat, 0 ≤ totTo arcs flow k ∧ totTo arcs flow k ≤ (k : Int) * 1125899906842624
 | 0 => by simp [totTo]
 | k + 1 => by
  have h1 := totTo_bound arcs flow hf ha k
  have h2 := flow_b hf k
  have h3 : 0 ≤ (arcs.getD k ⟨0,0,0,0⟩).cost ∧ (arcs.getD k ⟨0,0,0,0⟩).cost ≤ 1048576 := by
   rw [yA]
   cases h : arcs[k]? with
   | none => simp
   | some x => exact ha x (uC h)
  have := mul_b h2 h3
  simp only [totTo]
  omega
theorem ok71 (n node : Int) (arcs : List Arc) (flow : List Int) (hl : flow.length = arcs.length) (hb : arcs.length ≤ 4096) (hf : ∀ x ∈ flow, 0 ≤ x ∧ x ≤ 1073741824) : Ok 71 [net n arcs, li flow, .i node] (Is (.i (valTo arcs node flow arcs.length))) := by
 refine ok_of lw71 (by simp) ?_
 unfold c71 net li
 simp -implicitDefEqProofs only [rX,↓rY,ofConst,cells?,↓reduceIte,Nat.reduceAdd,freshP,cxN,args0]
 refine loopP_intro (fun k : Nat => ⟨[(8, .i k), (7, .i (valTo arcs node flow k)), (3, .ptr 0 0 0), (2, .i node), (1, .ro 1 (flow.map encI))], [.var [.i n, .ro 4 (arcs.map Arc.enc)]], 0⟩) (fun k => k ≤ arcs.length) (fun k => arcs.length - k) 0 (by simp) ?_ ?_
 ·simp -implicitDefEqProofs only [rX,↓reduceIte,Nat.reduceEqDiff,reduceCtorEq,leE,leH,leB,leV,leVs,keepP,liveP,wfE,wfB,wfV,wfL,leVs,leV,valTo,yC]
 intro k hk
 simp -implicitDefEqProofs only [rX,↓rY,rZ,ofConst,↓reduceIte,Nat.reduceEqDiff,resP,tupV,leE,leH,leB,leV,leVs,keepP,liveP,wfE,wfB,wfV,wfL]
 simp only [br, decide_eq_true_eq, decide_eq_false_iff_not]
 refine fun hm => ⟨fun h => ⟨⟨by omega, h⟩, by omega, ?_⟩, fun h => ?_⟩
 ·have hk1 : k < arcs.length := by omega
  have hk2 : k < flow.length := by omega
  have hfk := hf flow[k] (yD hk2)
  have hvb := valTo_bound arcs node flow hf k
  have hst := valTo_step (node := node) hk1 hk2
  simp only [lo, hi, beq_iff_eq, beq_eq_false_iff_ne]
  repeat' (first | (refine ⟨(k+1 : _), ?_⟩) | (refine ⟨by omega, ?_⟩) | (refine And.intro ?_ ?_) | (refine (fun _ => ?_)))
  all_goals first | omega | grind
 ·have : k = arcs.length := by omega
  rw [this]
theorem ok72 (n : Int) (arcs : List Arc) (flow : List Int) (hl : flow.length = arcs.length) (hb : arcs.length ≤ 2048) (hf : ∀ x ∈ flow, 0 ≤ x ∧ x ≤ 1073741824) (ha : ∀ a ∈ arcs, 0 ≤ a.cost ∧ a.cost ≤ 1048576) : Ok 72 [net n arcs, li flow] (Is (.i (totTo arcs flow arcs.length))) := by
 refine ok_of lw72 (by simp) ?_
 unfold c72 net li
 simp -implicitDefEqProofs only [rX,↓rY,ofConst,cells?,↓reduceIte,freshP,cxN,args0]
 refine loopP_intro (fun k : Nat => ⟨[(6, .i k), (5, .i (totTo arcs flow k)), (2, .ptr 0 0 0), (1, .ro 1 (flow.map encI))], [.var [.i n, .ro 4 (arcs.map Arc.enc)]], 0⟩) (fun k => k ≤ arcs.length) (fun k => arcs.length - k) 0 (by simp) ?_ ?_
 ·simp -implicitDefEqProofs only [rX,↓reduceIte,Nat.reduceEqDiff,reduceCtorEq,leE,leH,leB,leV,leVs,keepP,liveP,wfE,wfB,wfV,wfL,leVs,leV,totTo,yC]
 intro k hk
 simp -implicitDefEqProofs only [rX,↓rY,rZ,ofConst,↓reduceIte,Nat.reduceEqDiff,resP,tupV,leE,leH,leB,leV,leVs,keepP,liveP,wfE,wfB,wfV,wfL]
 simp only [br, decide_eq_true_eq, decide_eq_false_iff_not]
 refine fun hm => ⟨fun h => ⟨⟨by omega, h⟩, by omega, ?_⟩, fun h => ?_⟩
 ·have hk1 : k < arcs.length := by omega
  have hk2 : k < flow.length := by omega
  have hfk := hf flow[k] (yD hk2)
  have hak := ha arcs[k] (yD hk1)
  have hvb := totTo_bound arcs flow hf ha k
  have hst := totTo_step hk1 hk2
  have hmb := mul_b hfk hak
  simp only [lo, hi, beq_iff_eq, beq_eq_false_iff_ne]
  repeat' (first | (refine ⟨(k+1 : _), ?_⟩) | (refine ⟨by omega, ?_⟩) | (refine And.intro ?_ ?_) | (refine (fun _ => ?_)))
  all_goals first | omega | exact hst.symm
 ·have : k = arcs.length := by omega
  rw [this]
def fewB (n : Int) (arcs : List Arc) (most : Int) : Bool := decide (n ≤ 12 ∧ arcs.length ≤ 30 ∧ checkI n arcs = 0) && arcs.all fun a => decide (a.cap ≤ most)
end Go.Fx.P.K
namespace Go.Fx.P.K
open Go Go.Fx Go.Proofs
set_option maxRecDepth 20000
structure OkF (n : Int) (arcs : List Arc) (f t : Int) (flow : List Int) : Prop where
 hl : flow.length = arcs.length
 hp : possP arcs flow
 hz : ∀ j : Int, 0 ≤ j → j < n → j ≠ f → j ≠ t → valTo arcs j flow arcs.length = 0
open Classical in
noncomputable def flB (n : Int) (arcs : List Arc) (f t : Int) (flow : List Int) : Bool := decide (OkF n arcs f t flow)
theorem flB_t {n : Int} {arcs : List Arc} {f t : Int} {flow : List Int} (h : OkF n arcs f t flow) : true = flB n arcs f t flow := by simp [flB, h]
theorem flB_f {n : Int} {arcs : List Arc} {f t : Int} {flow : List Int} (h : ¬ OkF n arcs f t flow) : false = flB n arcs f t flow := by simp [flB, h]
structure PInv (arcs : List Arc) (flow : List Int) (k : Nat) : Prop where
 h : ∀ j (h1 : j < flow.length) (h2 : j < arcs.length), j < k → 0 ≤ flow[j] ∧ flow[j] ≤ arcs[j].cap
structure ZInv (arcs : List Arc) (f t : Int) (flow : List Int) (k : Nat) : Prop where
 h : ∀ j : Nat, j < k → ((j : Int) ≠ f → (j : Int) ≠ t → valTo arcs j flow arcs.length = 0)
theorem ok70 (N : Nat) (arcs : List Arc) (f t : Int) (flow : List Int) (hV : Val N arcs) : Ok 70 [net N arcs, .i f, .i t, li flow] (Is (.b (flB N arcs f t flow))) := by
 refine ok_of lw70 (by simp) ?_
 unfold c70 net li
 simp -implicitDefEqProofs only [rX,↓rY,ofConst,cells?,↓reduceIte,Nat.reduceEqDiff,Nat.reduceAdd,reduceCtorEq,freshP,resP,tupV,wfV,cxN,args0]
 simp only [br, decide_eq_true_eq, decide_eq_false_iff_not, bne_iff_ne, bne_eq_false_iff_eq]
 refine fun hm1 hm2 => ⟨fun h => flB_f fun hO => ?_, fun h => ?_⟩
 ·have := hO.hl; omega
 have hl : flow.length = arcs.length := by omega
 have hL := hV.hl
 have hN := hV.hn
 refine loopP_intro (fun k : Nat => ⟨[(9, .i k), (4, .ptr 0 0 0), (3, .ro 1 (flow.map encI)), (2, .i t), (1, .i f)], [.var [.i N, .ro 4 (arcs.map Arc.enc)]], 0⟩) (fun k => k ≤ arcs.length ∧ PInv arcs flow k) (fun k => arcs.length - k) 0 ⟨by omega, ⟨by simp⟩⟩ ?_ ?_
 ·simp -implicitDefEqProofs only [rX,↓reduceIte,Nat.reduceEqDiff,reduceCtorEq,leE,leH,leB,leV,leVs,keepP,liveP,wfE,wfB,wfV,wfL,leVs,leV,yC]
 rintro k ⟨hk, hv⟩
 simp -implicitDefEqProofs only [rX,↓rY,rZ,ofConst,↓reduceIte,Nat.reduceEqDiff,resP,tupV,leE,leH,leB,leV,leVs,keepP,liveP,wfE,wfB,wfV,wfL]
 simp only [br, decide_eq_true_eq, decide_eq_false_iff_not]
 refine fun _ => ⟨fun h2 => ?_, fun h2 => ?_⟩
 ·have hk1 : k < arcs.length := by omega
  have hk2 : k < flow.length := by omega
  have bad : ¬ (0 ≤ flow[k] ∧ flow[k] ≤ arcs[k].cap) → false = flB N arcs f t flow := fun h => flB_f fun hO => h (hO.hp k hk2 hk1)
  have good : (0 ≤ flow[k] ∧ flow[k] ≤ arcs[k].cap) → PInv arcs flow (k + 1) := by
   refine fun hx => ⟨fun j h3 h4 h5 => ?_⟩
   by_cases h6 : j = k
   ·subst h6; exact hx
   ·exact hv.h j h3 h4 (by omega)
  simp only [lo, hi, maxLen] at *
  repeat' (first | (refine ⟨(k+1 : _), ?_⟩) | (refine ⟨by omega, ?_⟩) | (refine And.intro ?_ ?_) | (refine (fun _ => ?_)))
  all_goals first | omega | (apply bad; omega) | (apply good; omega)
 have hp : possP arcs flow := fun i h3 h4 => hv.h i h3 h4 (by omega)
 have hf := hV.flow hl hp
 refine loopP_intro (fun k : Nat => ⟨[(10, .i k), (4, .ptr 0 0 0), (3, .ro 1 (flow.map encI)), (2, .i t), (1, .i f)], [.var [.i N, .ro 4 (arcs.map Arc.enc)]], 0⟩) (fun k => k ≤ N ∧ ZInv arcs f t flow k) (fun k => N - k) 0 ⟨by omega, ⟨by simp⟩⟩ ?_ ?_
 ·simp -implicitDefEqProofs only [rX,↓reduceIte,Nat.reduceEqDiff,leE,leH,leB,leV,leVs,keepP,liveP,wfE,wfB,wfV,wfL,leVs,leV,yC]
 rintro k ⟨hk, hv⟩
 simp -implicitDefEqProofs only [rX,↓rY,ofConst,↓reduceIte,Nat.reduceEqDiff,Nat.reduceAdd,resP,tupV,leE,leH,leB,leV,leVs,keepP,liveP,wfE,wfB,wfV,wfL]
 simp only [br, decide_eq_true_eq, decide_eq_false_iff_not, bne_iff_ne, bne_eq_false_iff_eq]
 have hnx : ((k : Int) ≠ f → (k : Int) ≠ t → valTo arcs k flow arcs.length = 0) → ZInv arcs f t flow (k + 1) := by
  refine fun h4 => ⟨fun j hj => ?_⟩
  by_cases h6 : j = k
  ·subst h6; exact h4
  ·exact hv.h j (by omega)
 refine ⟨fun h3 => ⟨fun h1 => ⟨fun h2 => ?_, fun h2 => ?_⟩, fun h1 => ?_⟩, fun h3 => ?_⟩
 ·refine call_is (ok71 N k arcs flow hl (by omega) hf) (by simp [net, li, lendsOk, lendOk, lends, lend, wkL, wk, wkR]) rfl trivial ?_
  simp -implicitDefEqProofs only [rX,↓rY,ofConst,↓reduceIte,Nat.reduceEqDiff,resP,tupV,leE,leH,leB,leV,leVs,keepP,liveP,wfE,wfB,wfV,wfL]
  simp only [br, decide_eq_true_eq, decide_eq_false_iff_not, bne_iff_ne, bne_eq_false_iff_eq, lo, hi]
  refine ⟨fun h5 => flB_f fun hO => h5 (hO.hz k (by omega) (by omega) h1 h2), fun h5 => ?_⟩
  repeat' (first | (refine ⟨(k+1 : _), ?_⟩) | (refine ⟨by omega, ?_⟩) | (refine And.intro ?_ ?_) | (refine (fun _ => ?_)))
  all_goals first | omega | exact hnx fun _ _ => h5
 ·simp only [lo, hi]
  repeat' (first | (refine ⟨(k+1 : _), ?_⟩) | (refine ⟨by omega, ?_⟩) | (refine And.intro ?_ ?_) | (refine (fun _ => ?_)))
  all_goals first | omega | exact hnx fun _ h => absurd h2 h
 ·simp only [lo, hi]
  repeat' (first | (refine ⟨(k+1 : _), ?_⟩) | (refine ⟨by omega, ?_⟩) | (refine And.intro ?_ ?_) | (refine (fun _ => ?_)))
  all_goals first | omega | exact hnx fun h _ => absurd h1 h
 ·refine flB_t ⟨hl, hp, fun j h1 h2 h4 h6 => ?_⟩
  have := (hv.h j.toNat (by omega))
  rw [vH h1] at this
  exact this h4 h6
def hasB (l : List Int) (x : Int) : Bool := decide (x ∈ l)
structure NInv (l : List Int) (x : Int) (k : Nat) : Prop where
 h : ∀ j (h1 : j < l.length), j < k → l[j] ≠ x
theorem ok97 (l : List Int) (x : Int) : Ok 97 [li l, .i x] (Is (.b (hasB l x))) := by
 refine ok_of lw97 (by simp) ?_
 unfold c97 li
 simp -implicitDefEqProofs only [rX,ofConst,cxN,args0]
 refine loopP_intro (fun k : Nat => ⟨[(5, .i k), (1, .i x), (0, .ro 1 (l.map encI))], [], 0⟩) (fun k => k ≤ l.length ∧ NInv l x k) (fun k => l.length - k) 0 ⟨by omega, ⟨by simp⟩⟩ ?_ ?_
 ·simp -implicitDefEqProofs only [rX,↓reduceIte,Nat.reduceEqDiff,reduceCtorEq,leE,leH,keepP,wfE,wfB,wfV,yC]
 rintro k ⟨hk, hv⟩
 simp -implicitDefEqProofs only [rX,↓rY,rZ,ofConst,↓reduceIte,Nat.reduceEqDiff,reduceCtorEq,resP,tupV,leE,leH,keepP,wfE,wfB,wfV]
 simp only [br, decide_eq_true_eq, decide_eq_false_iff_not, beq_iff_eq, beq_eq_false_iff_ne]
 refine fun _ => ⟨fun h2 => ⟨⟨by omega, h2⟩, by omega, fun h3 => ?_, fun h3 => ⟨by simp only [lo, hi, maxLen] at *; omega, k + 1, ⟨⟨by omega, ⟨fun j hj h2 => ?_⟩⟩, by omega⟩, by simp⟩⟩, fun h2 => ?_⟩
 ·have : x ∈ l := by rw [← h3]; exact yD _
  simp [hasB, this]
 ·by_cases h6 : j = k
  ·subst h6; exact h3
  ·exact hv.h j hj (by omega)
 ·have : ¬ x ∈ l := by
   intro hx
   obtain ⟨j, hj, rfl⟩ := yN hx
   exact hv.h j hj (by omega) rfl
  simp [hasB, this]
structure OkP (N : Nat) (arcs : List Arc) (f : Int) (flow price : List Int) : Prop where
 hl : price.length = N
 h0 : price.getD f.toNat 0 = 0
 hb : ∀ j (h : j < price.length), 0 ≤ price[j] ∧ price[j] ≤ 1073741824
 ha : ∀ k (h : k < arcs.length), (arcs[k].cost + price.getD arcs[k].from_.toNat 0 - price.getD arcs[k].to.toNat 0 < 0 → arcs[k].cap ≤ flow.getD k 0) ∧ (0 < arcs[k].cost + price.getD arcs[k].from_.toNat 0 - price.getD arcs[k].to.toNat 0 → flow.getD k 0 ≤ 0)
open Classical in
noncomputable def prB (N : Nat) (arcs : List Arc) (f : Int) (flow price : List Int) : Bool := decide (OkP N arcs f flow price)
theorem prB_t {N : Nat} {arcs : List Arc} {f : Int} {flow price : List Int} (h : OkP N arcs f flow price) : true = prB N arcs f flow price := by simp [prB, h]
theorem prB_f {N : Nat} {arcs : List Arc} {f : Int} {flow price : List Int} (h : ¬ OkP N arcs f flow price) : false = prB N arcs f flow price := by simp [prB, h]
theorem getD_at {l : List Int} {i : Int} (h : 0 ≤ i ∧ i < l.length) : l.getD i.toNat 0 = l[i.toNat]'(by omega) := by
 rw [yA, yB (by omega)]; rfl
theorem getD_nat {l : List Int} {k : Nat} (h : k < l.length) : l.getD k 0 = l[k] := by
 rw [yA, yB h]; rfl
structure BInv (price : List Int) (k : Nat) : Prop where
 h : ∀ j (h : j < price.length), j < k → 0 ≤ price[j] ∧ price[j] ≤ 1073741824
structure RInv (arcs : List Arc) (flow price : List Int) (k : Nat) : Prop where
 h : ∀ k' (h : k' < arcs.length), k' < k → (arcs[k'].cost + price.getD arcs[k'].from_.toNat 0 - price.getD arcs[k'].to.toNat 0 < 0 → arcs[k'].cap ≤ flow.getD k' 0) ∧ (0 < arcs[k'].cost + price.getD arcs[k'].from_.toNat 0 - price.getD arcs[k'].to.toNat 0 → flow.getD k' 0 ≤ 0)
theorem RInv.next {arcs : List Arc} {flow price : List Int} {k : Nat} (hv : RInv arcs flow price k) (hk : k < arcs.length) (h : (arcs[k].cost + price.getD arcs[k].from_.toNat 0 - price.getD arcs[k].to.toNat 0 < 0 → arcs[k].cap ≤ flow.getD k 0) ∧ (0 < arcs[k].cost + price.getD arcs[k].from_.toNat 0 - price.getD arcs[k].to.toNat 0 → flow.getD k 0 ≤ 0)) : RInv arcs flow price (k + 1) := by
 refine ⟨fun j hj h2 => ?_⟩
 by_cases h6 : j = k
 ·subst h6; exact h
 ·exact hv.h j hj (by omega)
theorem ok73 (N : Nat) (arcs : List Arc) (f : Int) (fr : Fr) (hV : Val N arcs) (hf : 0 ≤ f ∧ f < N) (hl : fr.flow.length = arcs.length) : Ok 73 [net N arcs, .i f, fr.enc] (Is (.b (prB N arcs f fr.flow fr.price))) := by
 refine ok_of lw73 (by simp) ?_
 unfold c73 net Fr.enc li
 simp -implicitDefEqProofs only [rX,↓rY,rZ,ofConst,cells?,↓reduceIte,Nat.reduceEqDiff,Nat.reduceAdd,reduceCtorEq,freshP,resP,tupV,wfV,cxN,args0]
 simp only [br, decide_eq_true_eq, decide_eq_false_iff_not, bne_iff_ne, bne_eq_false_iff_eq]
 have hL := hV.hl
 have hN := hV.hn
 refine fun hm1 => ⟨fun h => prB_f fun hO => ?_, fun h => ?_⟩
 ·have := hO.hl; omega
 have hpl : fr.price.length = N := by omega
 refine ⟨⟨hf.1, by omega⟩, by omega, fun h0 => prB_f fun hO => ?_, fun h0 => ?_⟩
 ·have := hO.h0
  rw [getD_at (by omega)] at this
  exact h0 this
 refine loopP_intro (fun k : Nat => ⟨[(7, .i k), (5, .ptr 1 0 0), (3, .ptr 0 0 0), (1, .i f)], [.var [.i N, .ro 4 (arcs.map Arc.enc)], .var [.i fr.sent, .i fr.cost, .ro 1 (fr.flow.map encI), .ro 1 (fr.price.map encI), .ro 1 (fr.cut.map encI)]], 0⟩) (fun k => k ≤ N ∧ BInv fr.price k) (fun k => N - k) 0 ⟨by omega, ⟨by simp⟩⟩ ?_ ?_
 ·simp -implicitDefEqProofs only [rX,↓reduceIte,Nat.reduceEqDiff,reduceCtorEq,leE,leH,leB,leV,leVs,keepP,liveP,wfE,wfB,wfV,wfL,leVs,leV,yC]
 rintro k ⟨hk, hv⟩
 simp -implicitDefEqProofs only [rX,↓rY,rZ,ofConst,↓reduceIte,Nat.reduceEqDiff,Nat.reduceAdd,resP,tupV,leE,leH,leB,leV,leVs,keepP,liveP,wfE,wfB,wfV,wfL]
 simp only [br, decide_eq_true_eq, decide_eq_false_iff_not]
 refine ⟨fun h2 => ?_, fun h2 => ?_⟩
 ·have hk1 : k < fr.price.length := by omega
  have bad : ¬ (0 ≤ fr.price[k] ∧ fr.price[k] ≤ 1073741824) → false = prB N arcs f fr.flow fr.price := fun h => prB_f fun hO => h (hO.hb k hk1)
  have good : (0 ≤ fr.price[k] ∧ fr.price[k] ≤ 1073741824) → BInv fr.price (k + 1) := by
   refine fun hx => ⟨fun j h3 h5 => ?_⟩
   by_cases h6 : j = k
   ·subst h6; exact hx
   ·exact hv.h j h3 (by omega)
  simp only [lo, hi, maxLen] at *
  repeat' (first | (refine ⟨(k+1 : _), ?_⟩) | (refine ⟨by omega, ?_⟩) | (refine And.intro ?_ ?_) | (refine (fun _ => ?_)))
  all_goals first | omega | (apply bad; omega) | (apply good; omega)
 have hb : ∀ j (h : j < fr.price.length), 0 ≤ fr.price[j] ∧ fr.price[j] ≤ 1073741824 := fun j hj => hv.h j hj (by omega)
 refine loopP_intro (fun k : Nat => ⟨[(8, .i k), (5, .ptr 1 0 0), (3, .ptr 0 0 0), (1, .i f)], [.var [.i N, .ro 4 (arcs.map Arc.enc)], .var [.i fr.sent, .i fr.cost, .ro 1 (fr.flow.map encI), .ro 1 (fr.price.map encI), .ro 1 (fr.cut.map encI)]], 0⟩) (fun k => k ≤ arcs.length ∧ RInv arcs fr.flow fr.price k) (fun k => arcs.length - k) 0 ⟨by omega, ⟨by simp⟩⟩ ?_ ?_
 ·simp -implicitDefEqProofs only [rX,↓reduceIte,Nat.reduceEqDiff,leE,leH,leB,leV,leVs,keepP,liveP,wfE,wfB,wfV,wfL,leVs,leV,yC]
 rintro k ⟨hk, hv⟩
 simp -implicitDefEqProofs only [rX,↓rY,rZ,ofConst,cells?,splice,↓reduceIte,Nat.reduceEqDiff,Nat.reduceAdd,freshP,resP,tupV,leE,leH,leB,leV,leVs,keepP,liveP,wfE,wfB,wfV,wfL]
 simp only [br, decide_eq_true_eq, decide_eq_false_iff_not]
 refine fun hm2 => ⟨fun h2 => ?_, fun h2 => ?_⟩
 ·have hk1 : k < arcs.length := by omega
  have hk2 : k < fr.flow.length := by omega
  have hva := hV.ha arcs[k] (yD hk1)
  have b1 := hb arcs[k].from_.toNat (by omega)
  have b2 := hb arcs[k].to.toNat (by omega)
  have bad : ¬ (_ ∧ _) → false = prB N arcs f fr.flow fr.price := fun h => prB_f fun hO => h (hO.ha k hk1)
  have good := hv.next hk1
  rw [getD_at (by omega), getD_at (by omega), getD_nat hk2] at bad good
  simp only [lo, hi, maxLen] at *
  repeat' (first | (refine ⟨(k+1 : _), ?_⟩) | (refine ⟨by omega, ?_⟩) | (refine And.intro ?_ ?_) | (refine (fun _ => ?_)))
  all_goals first | omega | (apply bad; omega) | (apply good; omega)
 ·refine prB_t ⟨hpl, ?_, hb, fun j hj => hv.h j hj (by omega)⟩
  rw [getD_at (by omega)]; exact h0
end Go.Fx.P.K
namespace Go.Fx.P.K
open Go Go.Fx Go.Proofs
set_option maxRecDepth 20000
structure OkS (n : Int) (cut : List Int) (k : Nat) : Prop where
 h : ∀ j (h : j < cut.length), j < k → (0 ≤ cut[j] ∧ cut[j] < n) ∧ (0 < j → cut.getD (j - 1) 0 < cut[j])
theorem OkS.next {n : Int} {cut : List Int} {k : Nat} (hv : OkS n cut k) (hk : k < cut.length) (h : (0 ≤ cut[k] ∧ cut[k] < n) ∧ (0 < k → cut.getD (k - 1) 0 < cut[k])) : OkS n cut (k + 1) := by
 refine ⟨fun j hj h2 => ?_⟩
 by_cases h6 : j = k
 ·subst h6; exact h
 ·exact hv.h j hj (by omega)
structure OkA (arcs : List Arc) (flow : List Int) (cut : List Int) (k : Nat) : Prop where
 h : ∀ j (h : j < arcs.length), j < k → (hasB cut arcs[j].from_ = true → hasB cut arcs[j].to = false → flow.getD j 0 = arcs[j].cap) ∧ (hasB cut arcs[j].to = true → hasB cut arcs[j].from_ = false → flow.getD j 0 = 0)
theorem OkA.next {arcs : List Arc} {flow cut : List Int} {k : Nat} (hv : OkA arcs flow cut k) (hk : k < arcs.length) (h : (hasB cut arcs[k].from_ = true → hasB cut arcs[k].to = false → flow.getD k 0 = arcs[k].cap) ∧ (hasB cut arcs[k].to = true → hasB cut arcs[k].from_ = false → flow.getD k 0 = 0)) : OkA arcs flow cut (k + 1) := by
 refine ⟨fun j hj h2 => ?_⟩
 by_cases h6 : j = k
 ·subst h6; exact h
 ·exact hv.h j hj (by omega)
structure OkC (n : Int) (arcs : List Arc) (f t : Int) (flow cut : List Int) : Prop where
 hs : OkS n cut cut.length
 hf : hasB cut f = true
 ht : hasB cut t = false
 ha : OkA arcs flow cut arcs.length
open Classical in
noncomputable def cuB (n : Int) (arcs : List Arc) (f t : Int) (flow cut : List Int) : Bool := decide (OkC n arcs f t flow cut)
theorem cuB_t {n : Int} {arcs : List Arc} {f t : Int} {flow cut : List Int} (h : OkC n arcs f t flow cut) : true = cuB n arcs f t flow cut := by simp [cuB, h]
theorem cuB_f {n : Int} {arcs : List Arc} {f t : Int} {flow cut : List Int} (h : ¬ OkC n arcs f t flow cut) : false = cuB n arcs f t flow cut := by simp [cuB, h]
def frB (fr : Fr) : Blk := .var [.i fr.sent, .i fr.cost, .ro 1 (fr.flow.map encI), .ro 1 (fr.price.map encI), .ro 1 (fr.cut.map encI)]
theorem ok74 (N : Nat) (arcs : List Arc) (f t : Int) (fr : Fr) (hV : Val N arcs) (hl : fr.flow.length = arcs.length) : Ok 74 [net N arcs, .i f, .i t, fr.enc] (Is (.b (cuB N arcs f t fr.flow fr.cut))) := by
 refine ok_of lw74 (by simp) ?_
 unfold c74 net Fr.enc li
 simp -implicitDefEqProofs only [rX,↓rY,ofConst,cells?,↓reduceIte,Nat.reduceEqDiff,Nat.reduceAdd,reduceCtorEq,freshP,cxN,args0]
 have hL := hV.hl
 have hN := hV.hn
 refine loopP_intro (fun k : Nat => ⟨[(9, .i k), (7, .ptr 1 0 0), (4, .ptr 0 0 0), (2, .i t), (1, .i f)], [.var [.i N, .ro 4 (arcs.map Arc.enc)], frB fr], 0⟩) (fun k => k ≤ fr.cut.length ∧ OkS N fr.cut k) (fun k => fr.cut.length - k) 0 ⟨by omega, ⟨by simp⟩⟩ ?_ ?_
 ·simp -implicitDefEqProofs only [rX,↓reduceIte,Nat.reduceEqDiff,reduceCtorEq,leE,leH,leB,leV,leVs,keepP,liveP,wfE,wfB,wfV,wfL,leVs,leV,yC,frB]
 rintro k ⟨hk, hv⟩
 simp -implicitDefEqProofs only [rX,↓rY,rZ,rdK,↓reduceIte,Nat.reduceEqDiff,Nat.reduceAdd,frB]
 simp only [br, decide_eq_true_eq, decide_eq_false_iff_not]
 refine fun hm1 => ⟨fun h2 => ?_, fun h2 => ?_⟩
 ·have hk1 : k < fr.cut.length := by omega
  have good := hv.next hk1
  have bad : ¬ ((0 ≤ fr.cut[k] ∧ fr.cut[k] < N) ∧ (0 < k → fr.cut.getD (k - 1) 0 < fr.cut[k])) → false = cuB N arcs f t fr.flow fr.cut := fun h => cuB_f fun hO => h (hO.hs.h k hk1 hk1)
  refine ⟨⟨by omega, h2⟩, by omega, ?_⟩
  refine call_is (ok96 N arcs fr.cut[k]) (by simp [net, lendsOk, lendOk, lends, lend, wkL, wk, wkR]) rfl trivial ?_
  cases hn : nodeB N fr.cut[k] with
  | false =>
   simp -implicitDefEqProofs only [rX,↓rY,rdK,ofConst,↓reduceIte,Nat.reduceEqDiff,Nat.reduceAdd,resP,tupV,wfV]
   simp only [nodeB, decide_eq_false_iff_not] at hn
   exact bad fun h => hn h.1
  | true =>
   simp -implicitDefEqProofs only [rX,↓rY,rZ,rdK,ofConst,↓reduceIte,Nat.reduceEqDiff,Nat.reduceAdd,resP,tupV,leE,leH,leB,leV,leVs,keepP,liveP,wfE,wfB,wfV,wfL]
   simp only [nodeB, decide_eq_true_eq] at hn
   have hp : 0 < k → fr.cut.getD (k - 1) 0 = fr.cut[((k : Int) - 1).toNat]'(by omega) := by
    intro h0
    have e1 : ((k : Int) - 1).toNat = k - 1 := by omega
    simp only [e1]
    exact getD_nat (by omega)
   simp only [br, decide_eq_true_eq, decide_eq_false_iff_not, lo, hi, maxLen] at *
   repeat' (first | (refine ⟨(k+1 : _), ?_⟩) | (refine ⟨by omega, ?_⟩) | (refine And.intro ?_ ?_) | (refine (fun _ => ?_)))
   all_goals first | omega | (apply bad; rintro ⟨_, h4⟩; have h4 := h4 (by omega); rw [hp (by omega)] at h4; omega) | (apply good; refine ⟨hn, fun h0 => ?_⟩; rw [hp h0]; omega) | (apply good; refine ⟨hn, fun h0 => ?_⟩; omega)
 have hs : OkS N fr.cut fr.cut.length := ⟨fun j h _ => hv.h j h (by omega)⟩
 refine call_is (ok97 fr.cut f) (by simp [li, lendsOk, lendOk, lends, lend, wkL, wk, wkR]) rfl trivial ?_
 cases hf : hasB fr.cut f with
 | false =>
  simp -implicitDefEqProofs only [rX,↓rY,ofConst,↓reduceIte,Nat.reduceEqDiff,Nat.reduceAdd,resP,tupV,wfV]
  exact cuB_f fun hO => by have := hO.hf; rw [hf] at this; cases this
 | true =>
 simp -implicitDefEqProofs only [rX,↓rY,↓reduceIte,Nat.reduceEqDiff]
 refine call_is (ok97 fr.cut t) (by simp [li, lendsOk, lendOk, lends, lend, wkL, wk, wkR]) rfl trivial ?_
 cases ht : hasB fr.cut t with
 | true =>
  simp -implicitDefEqProofs only [rX,↓rY,ofConst,↓reduceIte,Nat.reduceEqDiff,Nat.reduceAdd,resP,tupV,wfV]
  exact cuB_f fun hO => by have := hO.ht; rw [ht] at this; cases this
 | false =>
 simp -implicitDefEqProofs only [rX,↓rY,ofConst,↓reduceIte,Nat.reduceEqDiff,Nat.reduceAdd]
 refine loopP_intro (fun k : Nat => ⟨[(10, .i k), (7, .ptr 1 0 0), (4, .ptr 0 0 0)], [.var [.i N, .ro 4 (arcs.map Arc.enc)], frB fr], 0⟩) (fun k => k ≤ arcs.length ∧ OkA arcs fr.flow fr.cut k) (fun k => arcs.length - k) 0 ⟨by omega, ⟨by simp⟩⟩ ?_ ?_
 ·simp -implicitDefEqProofs only [rX,↓reduceIte,Nat.reduceEqDiff,leE,leH,leB,leV,leVs,keepP,liveP,wfE,wfB,wfV,wfL,leVs,leV,yC,frB]
 rintro k ⟨hk, hv⟩
 simp -implicitDefEqProofs only [rX,↓rY,rZ,ofConst,cells?,splice,↓reduceIte,Nat.reduceEqDiff,Nat.reduceAdd,freshP,resP,tupV,wfV,frB]
 simp only [br, decide_eq_true_eq, decide_eq_false_iff_not]
 refine fun hm2 => ⟨fun h2 => ?_, fun h2 => cuB_t ⟨hs, hf, ht, ⟨fun j h _ => hv.h j h (by omega)⟩⟩⟩
 have hk1 : k < arcs.length := by omega
 have hk2 : k < fr.flow.length := by omega
 refine ⟨⟨by omega, h2⟩, by omega, ?_⟩
 have good := hv.next hk1
 have bad : ¬ (_ ∧ _) → false = cuB N arcs f t fr.flow fr.cut := fun h => cuB_f fun hO => h (hO.ha.h k hk1 hk1)
 rw [getD_nat hk2] at good bad
 refine call_is (ok97 fr.cut arcs[k].from_) (by simp [li, lendsOk, lendOk, lends, lend, wkL, wk, wkR]) rfl trivial ?_
 simp -implicitDefEqProofs only [rX,↓rY,rZ,↓reduceIte,Nat.reduceEqDiff,Nat.reduceAdd]
 refine call_is (ok97 fr.cut arcs[k].to) (by simp [li, lendsOk, lendOk, lends, lend, wkL, wk, wkR]) rfl trivial ?_
 generalize hasB fr.cut arcs[k].from_ = x at *
 generalize hasB fr.cut arcs[k].to = y at *
 cases x <;> cases y <;> simp -implicitDefEqProofs only [rX,↓rY,rZ,ofConst,↓reduceIte,Nat.reduceEqDiff,Nat.reduceAdd,resP,tupV,leE,leH,leB,leV,leVs,keepP,liveP,wfE,wfB,wfV,wfL] <;> simp only [br, decide_eq_true_eq, decide_eq_false_iff_not, bne_iff_ne, bne_eq_false_iff_eq, lo, hi, maxLen] at * <;>
  (repeat' (first | (refine ⟨(k+1 : _), ?_⟩) | (refine ⟨by omega, ?_⟩) | (refine And.intro ?_ ?_) | (refine (fun _ => ?_)))) <;> first | omega | (apply bad; simp; omega) | (apply good; simp; try omega)
structure OkAc (N : Nat) (arcs : List Arc) (f t am : Int) (fr : Fr) : Prop where
 fl : OkF N arcs f t fr.flow
 hs : 0 ≤ fr.sent ∧ fr.sent ≤ am
 hv : valTo arcs f fr.flow arcs.length = fr.sent
 ht : totTo arcs fr.flow arcs.length = fr.cost
 hp : OkP N arcs f fr.flow fr.price
 hc : if fr.sent = am then fr.cut = [] else OkC N arcs f t fr.flow fr.cut
open Classical in
noncomputable def accI (N : Nat) (arcs : List Arc) (f t am : Int) (fr : Fr) : Int := if OkAc N arcs f t am fr then 0 else 110
theorem accI_t {N : Nat} {arcs : List Arc} {f t am : Int} {fr : Fr} (h : OkAc N arcs f t am fr) : 0 = accI N arcs f t am fr := by simp [accI, h]
theorem accI_f {N : Nat} {arcs : List Arc} {f t am : Int} {fr : Fr} (h : ¬ OkAc N arcs f t am fr) : 110 = accI N arcs f t am fr := by simp [accI, h]
theorem ok49 (N : Nat) (arcs : List Arc) (f t am : Int) (fr : Fr) (hV : Val N arcs) (hf : 0 ≤ f ∧ f < N) : Ok 49 [net N arcs, .i f, .i t, .i am, fr.enc] (Is (.i (accI N arcs f t am fr))) := by
 refine ok_of lw49 (by simp) ?_
 unfold c49 net Fr.enc li
 have hL := hV.hl
 have hN := hV.hn
 have hac := fun a ha => (hV.ha a ha).2.2.2.2
 simp -implicitDefEqProofs only [rX,↓rY,ofConst,cells?,↓reduceIte,Nat.reduceEqDiff,Nat.reduceAdd,reduceCtorEq,freshP,cxN,args0]
 refine call_is (ok70 N arcs f t fr.flow hV) (by simp [net, li, lendsOk, lendOk, lends, lend, wkL, wk, wkR]) rfl trivial ?_
 cases hfl : flB N arcs f t fr.flow with
 | false =>
  simp -implicitDefEqProofs only [rX,↓rY,rdK,ofConst,↓reduceIte,Nat.reduceEqDiff,Nat.reduceAdd,resP,tupV,wfV]
  exact accI_f fun hO => by have := flB_t hO.fl; rw [hfl] at this; cases this
 | true =>
 have hfl : OkF N arcs f t fr.flow := by
  apply Classical.byContradiction
  intro h
  have := flB_f h; rw [hfl] at this; cases this
 have hl := hfl.hl
 have hfb := hV.flow hl hfl.hp
 simp -implicitDefEqProofs only [rX,↓rY,rdK,ofConst,↓reduceIte,Nat.reduceEqDiff,Nat.reduceAdd,reduceCtorEq,resP,tupV,wfV]
 simp only [br, decide_eq_true_eq, decide_eq_false_iff_not]
 refine ⟨fun h => accI_f fun hO => by have := hO.hs; omega, fun h0 => ⟨fun h => accI_f fun hO => by have := hO.hs; omega, fun h1 => ?_⟩⟩
 refine call_is (ok71 N f arcs fr.flow hl (by omega) hfb) (by simp [net, li, lendsOk, lendOk, lends, lend, wkL, wk, wkR]) rfl trivial ?_
 simp -implicitDefEqProofs only [rX,↓rY,rdK,ofConst,↓reduceIte,Nat.reduceEqDiff,Nat.reduceAdd,resP,tupV,wfV]
 simp only [br, bne_iff_ne, bne_eq_false_iff_eq]
 refine ⟨fun h => accI_f fun hO => h hO.hv, fun h2 => ?_⟩
 refine call_is (ok72 N arcs fr.flow hl hL hfb hac) (by simp [net, li, lendsOk, lendOk, lends, lend, wkL, wk, wkR]) rfl trivial ?_
 simp -implicitDefEqProofs only [rX,↓rY,rdK,ofConst,↓reduceIte,Nat.reduceEqDiff,Nat.reduceAdd,reduceCtorEq,resP,tupV,wfV]
 simp only [br, bne_iff_ne, bne_eq_false_iff_eq]
 refine ⟨fun h => accI_f fun hO => h hO.ht, fun h3 => ?_⟩
 refine call_is (ok73 N arcs f fr hV hf hl) (by simp [Fr.enc, net, li, lendsOk, lendOk, lends, lend, wkL, wk, wkR]) rfl trivial ?_
 cases hp : prB N arcs f fr.flow fr.price with
 | false =>
  simp -implicitDefEqProofs only [rX,↓rY,ofConst,↓reduceIte,Nat.reduceEqDiff,Nat.reduceAdd,resP,tupV,wfV]
  exact accI_f fun hO => by have := prB_t hO.hp; rw [hp] at this; cases this
 | true =>
 have hp : OkP N arcs f fr.flow fr.price := by
  apply Classical.byContradiction
  intro h
  have := prB_f h; rw [hp] at this; cases this
 simp -implicitDefEqProofs only [rX,↓rY,ofConst,↓reduceIte,Nat.reduceEqDiff,Nat.reduceAdd,reduceCtorEq,resP,tupV,wfV]
 simp only [br, beq_iff_eq, beq_eq_false_iff_ne, decide_eq_true_eq, decide_eq_false_iff_not]
 refine ⟨fun h4 => ?_, fun h4 => ?_⟩
 ·refine fun _ => ⟨fun h5 => accI_f fun hO => ?_, fun h5 => accI_t ⟨hfl, by omega, h2, h3, hp, ?_⟩⟩
  ·have := hO.hc
   rw [if_pos h4] at this
   rw [this] at h5
   simp at h5
  ·rw [if_pos h4]
   exact List.length_eq_zero_iff.1 (by omega)
 ·refine call_is (ok74 N arcs f t fr hV hl) (by simp [Fr.enc, net, li, lendsOk, lendOk, lends, lend, wkL, wk, wkR]) rfl trivial ?_
  cases hc : cuB N arcs f t fr.flow fr.cut with
  | false =>
   simp -implicitDefEqProofs only [rX,↓rY,ofConst,↓reduceIte,Nat.reduceAdd,resP,tupV,wfV]
   exact accI_f fun hO => by have h6 := hO.hc; rw [if_neg h4] at h6; have := cuB_t h6; rw [hc] at this; cases this
  | true =>
  have hc : OkC N arcs f t fr.flow fr.cut := by
   apply Classical.byContradiction
   intro h
   have := cuB_f h; rw [hc] at this; cases this
  simp -implicitDefEqProofs only [rX,↓rY,ofConst,↓reduceIte,Nat.reduceAdd,resP,tupV,wfV]
  exact accI_t ⟨hfl, by omega, h2, h3, hp, by rw [if_neg h4]; exact hc⟩
end Go.Fx.P.K
namespace Go.Fx.P
open Go Go.Fx Go.Proofs
set_option maxRecDepth 20000
theorem netOf_len {ps : List Spot} {rs : List Road} : (netOf ps rs).length = ps.length + (ofN ps 1 ps.length).length + (ofN ps 3 ps.length).length + rs.length := by
 simp only [netOf, nA4, nA3, nA2, nA1, yO, yV, vB]
def nN (ps : List Spot) : Nat := 2 + 2 * ps.length
theorem nN_eq (ps : List Spot) : nodes ps = (nN ps : Int) := by simp only [nodes, nN]; omega
theorem net_val {ps : List Spot} {rs : List Road} (h : chkP ps rs = 0) : K.Val (nN ps) (netOf ps rs) := by
 obtain ⟨⟨hl, hr⟩, hc, hv⟩ := chk_caps h
 have hlen := nA4_len (ps := ps) (l := rs)
 refine ⟨by simp only [nN]; omega, by simp only [netOf]; omega, fun a ha => ?_⟩
 simp only [netOf, nA4, nA3, nA2, nA1, uD, yI, yJ] at ha
 simp only [nN]
 rcases ha with ((⟨i, hi, rfl⟩ | ⟨i, hi, rfl⟩) | ⟨i, hi, rfl⟩) | ⟨r, hr2, rfl⟩
 ·have := capAt_b hc i
  simp only [aP]; omega
 ·have := capAt_b hc i
  have := ofN_mem hi
  simp only [aS]; omega
 ·have := capAt_b hc i
  have := ofN_mem hi
  simp only [aO]; omega
 ·obtain ⟨j, hj, rfl⟩ := yN hr2
  obtain ⟨h1, h2, h3, h4, h5, _⟩ := hv.h j hj hj
  simp only [aR]; omega
def FewP (ps : List Spot) (rs : List Road) : Prop := chkP ps rs = 0 ∧ ps.length ≤ 10 ∧ rs.length ≤ 25
open Classical in
noncomputable def fewB (ps : List Spot) (rs : List Road) : Bool := decide (FewP ps rs)
theorem ok19 (ps : List Spot) (rs : List Road) : Ok 19 [plant ps rs] (Is (.b (fewB ps rs))) := by
 refine ok_of lw19 (by simp) ?_
 unfold c19 plant sps rds
 simp -implicitDefEqProofs only [rX,↓rY,ofConst,cells?,↓reduceIte,Nat.reduceEqDiff,Nat.reduceAdd,freshP,cxN,args0]
 refine call_is (ok12 ps rs) (by simp [plant, sps, rds, lendsOk, lendOk, lends, lend, wkL, wk, wkR]) rfl trivial ?_
 simp -implicitDefEqProofs only [rX,↓rY,ofConst,↓reduceIte,Nat.reduceEqDiff,resP,tupV,wfV]
 simp only [br, beq_iff_eq, beq_eq_false_iff_ne, decide_eq_true_eq, decide_eq_false_iff_not]
 have ht : FewP ps rs → true = fewB ps rs := fun h => by simp [fewB, h]
 have hf : ¬ FewP ps rs → false = fewB ps rs := fun h => by simp [fewB, h]
 have he : ∀ t : Bool, (t = true ↔ FewP ps rs) → t = fewB ps rs := fun t h => by
  cases t
  ·exact hf fun h2 => by have := h.2 h2; cases this
  ·exact ht (h.1 rfl)
 repeat' (first | (with_reducible refine And.intro ?_ ?_) | (with_reducible refine fun _ => ?_))
 all_goals first
  | (apply he; simp only [FewP, decide_eq_true_eq]; omega)
  | (apply hf; simp only [FewP]; omega)
  | (apply ht; simp only [FewP]; omega)
open Classical in
noncomputable def racc (ps : List Spot) (rs : List Road) (fr : Fr) : Int := if chkP ps rs = 0 then K.accI (nN ps) (netOf ps rs) 0 1 (dem ps) fr else chkP ps rs
theorem ok21 (ps : List Spot) (rs : List Road) (fr : Fr) : Ok 21 [plant ps rs, fr.enc] (Is (.i (racc ps rs fr))) := by
 refine ok_of lw21 (by simp) ?_
 unfold c21 plant sps rds Fr.enc li
 simp -implicitDefEqProofs only [rX,↓rY,ofConst,cells?,↓reduceIte,Nat.reduceEqDiff,Nat.reduceAdd,reduceCtorEq,freshP,cxN,args0]
 refine call_is (ok12 ps rs) (by simp [plant, sps, rds, lendsOk, lendOk, lends, lend, wkL, wk, wkR]) rfl trivial ?_
 by_cases hc : chkP ps rs = 0
 ·obtain ⟨⟨hl, hr⟩, hcap, hv⟩ := chk_caps hc
  simp -implicitDefEqProofs only [rX,↓rY,rdK,ofConst,↓reduceIte,Nat.reduceEqDiff,Nat.reduceAdd,resP,tupV,wfV,hc,bne_self_eq_false]
  refine call_is (ok16 ps rs hl hr hv) (by simp [plant, sps, rds, lendsOk, lendOk, lends, lend, wkL, wk, wkR]) rfl trivial ?_
  simp -implicitDefEqProofs only [rX,↓reduceIte,Nat.reduceEqDiff]
  refine call_is (ok18 ps rs hl hcap) (by simp [plant, sps, rds, lendsOk, lendOk, lends, lend, wkL, wk, wkR]) rfl trivial ?_
  simp -implicitDefEqProofs only [rX,ofConst,↓reduceIte,Nat.reduceEqDiff]
  have e := K.ok49 (nN ps) (netOf ps rs) 0 1 (dem ps) fr (net_val hc) ⟨by omega, by simp only [nN]; omega⟩
  rw [← nN_eq] at e
  refine call_is e (by simp [net, li, Fr.enc, lendsOk, lendOk, lends, lend, wkL, wk, wkR]) rfl trivial ?_
  simp -implicitDefEqProofs only [rX,↓reduceIte,resP,tupV,wfV]
  simp [racc, hc]
 ·have hb : (chkP ps rs != 0) = true := by simpa using hc
  simp -implicitDefEqProofs only [rX,↓rY,rdK,ofConst,↓reduceIte,Nat.reduceEqDiff,Nat.reduceAdd,resP,tupV,wfV,hb]
  simp [racc, hc]
structure IsPlan (ps : List Spot) (rs : List Road) (fr : Fr) : Prop where
 chk : chkP ps rs = 0
 few : ps.length ≤ 10 ∧ rs.length ≤ 25
 acc : K.OkAc (nN ps) (netOf ps rs) 0 1 (dem ps) fr
theorem IsPlan.of {ps : List Spot} {rs : List Road} {fr : Fr} (h : FewP ps rs) (h2 : racc ps rs fr = 0) : IsPlan ps rs fr := by
 refine ⟨h.1, h.2, ?_⟩
 rw [racc, if_pos h.1, K.accI] at h2
 by_cases h3 : K.OkAc (nN ps) (netOf ps rs) 0 1 (dem ps) fr
 ·exact h3
 ·rw [if_neg h3] at h2; cases h2
set_option maxRecDepth 20000
def sumI (f : Nat → Int) : Nat → Int
 | 0 => 0
 | k + 1 => sumI f k + f k
theorem sumI_add {f : Nat → Int} (a : Nat) : ∀ b, sumI f (a + b) = sumI f a + sumI (fun i => f (a + i)) b
 | 0 => by simp [sumI]
 | b + 1 => by
  rw [← Nat.add_assoc, sumI, sumI_add a b, sumI]; omega
theorem sumI_congr {f g : Nat → Int} : ∀ {n : Nat}, (∀ i, i < n → f i = g i) → sumI f n = sumI g n
 | 0, _ => rfl
 | n + 1, h => by rw [sumI, sumI, sumI_congr fun i hi => h i (by omega), h n (by omega)]
theorem sumI_zero {f : Nat → Int} : ∀ {n : Nat}, (∀ i, i < n → f i = 0) → sumI f n = 0
 | 0, _ => rfl
 | n + 1, h => by rw [sumI, sumI_zero fun i hi => h i (by omega), h n (by omega)]; rfl
theorem sumI_plus {f g : Nat → Int} : ∀ {n : Nat}, sumI (fun i => f i + g i) n = sumI f n + sumI g n
 | 0 => rfl
 | n + 1 => by rw [sumI, sumI, sumI, sumI_plus]; omega
theorem sumI_neg {f : Nat → Int} : ∀ {n : Nat}, sumI (fun i => - f i) n = - sumI f n
 | 0 => rfl
 | n + 1 => by rw [sumI, sumI, sumI_neg]; omega
theorem sumI_le {f g : Nat → Int} : ∀ {n : Nat}, (∀ i, i < n → f i ≤ g i) → sumI f n ≤ sumI g n
 | 0, _ => uE _
 | n + 1, h => by
  have h1 := sumI_le (f := f) (g := g) (n := n) fun i hi => h i (by omega)
  have h2 := h n (by omega)
  rw [sumI, sumI]; omega
theorem sumI_nn {f : Nat → Int} {n : Nat} (h : ∀ i, i < n → 0 ≤ f i) : 0 ≤ sumI f n := by
 have := sumI_le (f := fun _ => 0) (g := f) h
 rwa [sumI_zero fun _ _ => rfl] at this
theorem sumI_one {f : Nat → Int} {i : Nat} : ∀ {n : Nat}, i < n → sumI (fun k => if k = i then f k else 0) n = f i
 | n + 1, h => by
  rw [sumI]
  by_cases hi : n = i
  ·subst hi
   rw [if_pos rfl, sumI_zero fun k hk => if_neg (by omega)]; omega
  ·rw [if_neg hi, sumI_one (by omega)]; omega
def con (j : Int) (a : Arc) (x : Int) : Int := (if a.from_ = j then x else 0) - (if a.to = j then x else 0)
abbrev a0 : Arc := ⟨0, 0, 0, 0⟩
theorem valTo_sum {arcs : List Arc} {j : Int} {flow : List Int} : ∀ {k : Nat}, K.valTo arcs j flow k = sumI (fun i => con j (arcs.getD i a0) (flow.getD i 0)) k
 | 0 => rfl
 | k + 1 => by
  have e : arcs.getD k a0 = arcs.getD k ⟨0, 0, 0, 0⟩ := rfl
  rw [K.valTo, valTo_sum, sumI, con, e]
  split <;> split <;> omega
theorem getD_l {l m : List Arc} {i : Nat} (h : i < l.length) : (l ++ m).getD i a0 = l.getD i a0 := by
 rw [yA, vM h, yA]
theorem getD_r {l m : List Arc} {i n : Nat} (h : l.length = n) : (l ++ m).getD (n + i) a0 = m.getD i a0 := by
 rw [yA, vN (by omega), yA, show n + i - l.length = i by omega]
theorem getD_map {α : Type} {l : List α} {f : α → Arc} {i : Nat} (d : α) (h : i < l.length) : (l.map f).getD i a0 = f (l.getD i d) := by
 rw [yA, List.getElem?_map, yA, yB h]; rfl
theorem val_parts {ps : List Spot} {rs : List Road} {flow : List Int} {j : Int} : K.valTo (netOf ps rs) j flow (netOf ps rs).length =
  sumI (fun i => con j (aP ps i) (flow.getD i 0)) ps.length +
  sumI (fun k => con j (aS ps ((ofN ps 1 ps.length).getD k 0)) (flow.getD (ps.length + k) 0)) (ofN ps 1 ps.length).length +
  sumI (fun k => con j (aO ps ((ofN ps 3 ps.length).getD k 0)) (flow.getD (ps.length + (ofN ps 1 ps.length).length + k) 0)) (ofN ps 3 ps.length).length +
  sumI (fun k => con j (aR (rs.getD k default)) (flow.getD (ps.length + (ofN ps 1 ps.length).length + (ofN ps 3 ps.length).length + k) 0)) rs.length := by
 rw [valTo_sum, netOf_len, sumI_add, sumI_add, sumI_add]
 have l3 : (nA3 ps (ofN ps 3 ps.length)).length = ps.length + (ofN ps 1 ps.length).length + (ofN ps 3 ps.length).length := by
  simp only [nA3, nA2, nA1, yO, yV, vB]
 have l2 : (nA2 ps (ofN ps 1 ps.length)).length = ps.length + (ofN ps 1 ps.length).length := by
  simp only [nA2, nA1, yO, yV, vB]
 have l1 : (nA1 ps ps.length).length = ps.length := nA1_len
 congr 1
 ·congr 1
  ·congr 1
   ·refine sumI_congr fun i hi => ?_
    rw [netOf, nA4, getD_l (by omega), nA3, getD_l (by omega), nA2, getD_l (by omega), nA1, getD_map 0 (by simpa using hi)]
    rw [yA, List.getElem?_range hi, yS]
   ·refine sumI_congr fun i hi => ?_
    rw [netOf, nA4, getD_l (by omega), nA3, getD_l (by omega), nA2, getD_r l1, getD_map 0 hi]
  ·refine sumI_congr fun i hi => ?_
   rw [netOf, nA4, getD_l (by omega), nA3, getD_r l2, getD_map 0 hi]
 ·refine sumI_congr fun i hi => ?_
  rw [netOf, nA4, getD_r l3, getD_map default hi]
set_option maxRecDepth 20000
theorem con_f {j x : Int} {a : Arc} (h1 : a.from_ = j) (h2 : a.to ≠ j) : con j a x = x := by rw [con, if_pos h1, if_neg h2]; omega
theorem con_t {j x : Int} {a : Arc} (h1 : a.from_ ≠ j) (h2 : a.to = j) : con j a x = -x := by rw [con, if_neg h1, if_pos h2]; omega
theorem con_n {j x : Int} {a : Arc} (h1 : a.from_ ≠ j) (h2 : a.to ≠ j) : con j a x = 0 := by rw [con, if_neg h1, if_neg h2]; rfl
def Fr.fl (fr : Fr) (k : Nat) : Int := fr.flow.getD k 0
def sS (ps : List Spot) (fr : Fr) (i : Nat) : Int := sumI (fun k => if (ofN ps 1 ps.length).getD k 0 = i then fr.fl (ps.length + k) else 0) (ofN ps 1 ps.length).length
def Fr.rd (ps : List Spot) (fr : Fr) (k : Nat) : Int := fr.fl (ps.length + (ofN ps 1 ps.length).length + (ofN ps 3 ps.length).length + k)
def sIn (ps : List Spot) (rs : List Road) (fr : Fr) (i : Nat) : Int := sumI (fun k => if (rs.getD k default).to = i then fr.rd ps k else 0) rs.length
theorem val_in {ps : List Spot} {rs : List Road} {fr : Fr} {i : Nat} (hi : i < ps.length) : K.valTo (netOf ps rs) (2 + 2 * i : Nat) fr.flow (netOf ps rs).length = fr.fl i - sS ps fr i - sIn ps rs fr i := by
 rw [val_parts]
 have e1 : sumI (fun k => con (2 + 2 * i : Nat) (aP ps k) (fr.flow.getD k 0)) ps.length = fr.fl i := by
  rw [← sumI_one (f := fr.fl) hi]
  refine sumI_congr fun k _ => ?_
  simp only [Fr.rd, Fr.fl]
  by_cases h : k = i
  ·rw [if_pos h, con_f (by simp only [aP, aS, aO, aR]; omega) (by simp only [aP, aS, aO, aR]; omega)]
  ·rw [if_neg h, con_n (by simp only [aP, aS, aO, aR]; omega) (by simp only [aP, aS, aO, aR]; omega)]; try omega
 have e2 : sumI (fun k => con (2 + 2 * i : Nat) (aS ps ((ofN ps 1 ps.length).getD k 0)) (fr.flow.getD (ps.length + k) 0)) (ofN ps 1 ps.length).length = - sS ps fr i := by
  rw [sS, ← sumI_neg]
  refine sumI_congr fun k _ => ?_
  simp only [Fr.rd, Fr.fl]
  by_cases h : (ofN ps 1 ps.length).getD k 0 = i
  ·rw [if_pos h, con_t (by simp only [aP, aS, aO, aR]; omega) (by simp only [aP, aS, aO, aR]; omega)]
  ·rw [if_neg h, con_n (by simp only [aP, aS, aO, aR]; omega) (by simp only [aP, aS, aO, aR]; omega)]; try omega
 have e3 : sumI (fun k => con (2 + 2 * i : Nat) (aO ps ((ofN ps 3 ps.length).getD k 0)) (fr.flow.getD (ps.length + (ofN ps 1 ps.length).length + k) 0)) (ofN ps 3 ps.length).length = 0 := by
  refine sumI_zero fun k _ => ?_
  exact con_n (by simp only [aP, aS, aO, aR]; omega) (by simp only [aP, aS, aO, aR]; omega)
 have e4 : sumI (fun k => con (2 + 2 * i : Nat) (aR (rs.getD k default)) (fr.flow.getD (ps.length + (ofN ps 1 ps.length).length + (ofN ps 3 ps.length).length + k) 0)) rs.length = - sIn ps rs fr i := by
  rw [sIn, ← sumI_neg]
  refine sumI_congr fun k _ => ?_
  simp only [Fr.rd, Fr.fl]
  by_cases h : (rs.getD k default).to = i
  ·rw [if_pos h, con_t (by simp only [aP, aS, aO, aR]; omega) (by simp only [aP, aS, aO, aR]; omega)]
  ·rw [if_neg h, con_n (by simp only [aP, aS, aO, aR]; omega) (by simp only [aP, aS, aO, aR]; omega)]; try omega
 rw [e1, e2, e3, e4]; omega
theorem val_0 {ps : List Spot} {rs : List Road} {fr : Fr} (hv : RInv ps rs rs.length) : K.valTo (netOf ps rs) 0 fr.flow (netOf ps rs).length = sumI (fun k => fr.fl (ps.length + k)) (ofN ps 1 ps.length).length := by
 rw [val_parts]
 have e1 : sumI (fun k => con 0 (aP ps k) (fr.flow.getD k 0)) ps.length = 0 := by
  refine sumI_zero fun k _ => ?_
  exact con_n (by simp only [aP, aS, aO, aR]; omega) (by simp only [aP, aS, aO, aR]; omega)
 have e2 : sumI (fun k => con 0 (aS ps ((ofN ps 1 ps.length).getD k 0)) (fr.flow.getD (ps.length + k) 0)) (ofN ps 1 ps.length).length = sumI (fun k => fr.fl (ps.length + k)) (ofN ps 1 ps.length).length := by
  refine sumI_congr fun k _ => ?_
  simp only [Fr.rd, Fr.fl]
  exact con_f rfl (by simp only [aP, aS, aO, aR]; omega)
 have e3 : sumI (fun k => con 0 (aO ps ((ofN ps 3 ps.length).getD k 0)) (fr.flow.getD (ps.length + (ofN ps 1 ps.length).length + k) 0)) (ofN ps 3 ps.length).length = 0 := by
  refine sumI_zero fun k _ => ?_
  exact con_n (by simp only [aP, aS, aO, aR]; omega) (by simp only [aP, aS, aO, aR]; omega)
 have e4 : sumI (fun k => con 0 (aR (rs.getD k default)) (fr.flow.getD (ps.length + (ofN ps 1 ps.length).length + (ofN ps 3 ps.length).length + k) 0)) rs.length = 0 := by
  refine sumI_zero fun k hk => ?_
  obtain ⟨h1, h2, _⟩ := hv.h k hk hk
  have e : rs.getD k default = rs[k] := by rw [yA, yB hk, yS]
  rw [e]
  exact con_n (by simp only [aP, aS, aO, aR]; omega) (by simp only [aP, aS, aO, aR]; omega)
 rw [e1, e2, e3, e4]; omega
set_option maxRecDepth 20000
theorem getD_rs {rs : List Road} {k : Nat} (hk : k < rs.length) : rs.getD k default = rs[k] := by rw [yA, yB hk, yS]
variable {ps : List Spot} {rs : List Road} {fr : Fr}
theorem IsPlan.fl_b (h : IsPlan ps rs fr) (k : Nat) : 0 ≤ fr.fl k ∧ fr.fl k ≤ 1073741824 :=
 K.flow_b ((net_val h.chk).flow h.acc.fl.hl h.acc.fl.hp) k
theorem IsPlan.len (h : IsPlan ps rs fr) : fr.flow.length = ps.length + (ofN ps 1 ps.length).length + (ofN ps 3 ps.length).length + rs.length := by
 rw [h.acc.fl.hl, netOf_len]
theorem IsPlan.caps (h : IsPlan ps rs fr) {i : Nat} (hi : i < ps.length) : fr.fl i ≤ ps[i].cap := by
 have hl := h.acc.fl.hl
 have hn := netOf_len (ps := ps) (rs := rs)
 have := (h.acc.fl.hp i (by omega) (by omega)).2
 have e : (netOf ps rs)[i]'(by omega) = aP ps i := by
  have l2 : (nA2 ps (ofN ps 1 ps.length)).length = ps.length + (ofN ps 1 ps.length).length := by
   simp only [nA2, nA1, yO, yV, vB]
  have l3 : (nA3 ps (ofN ps 3 ps.length)).length = ps.length + (ofN ps 1 ps.length).length + (ofN ps 3 ps.length).length := by
   simp only [nA3, nA2, nA1, yO, yV, vB]
  have l1 : (nA1 ps ps.length).length = ps.length := nA1_len
  simp only [netOf, nA4]
  rw [uF (by omega)]
  simp only [nA3]
  rw [uF (by omega)]
  simp only [nA2]
  rw [uF (by omega)]
  simp only [nA1, vI, List.getElem_range]
 rw [e] at this
 rw [Fr.fl, yA, yB (by omega), yS]
 have e2 := capAt_lt hi
 simp only [aP] at this
 omega
theorem IsPlan.e_in (h : IsPlan ps rs fr) {i : Nat} (hi : i < ps.length) : fr.fl i = sS ps fr i + sIn ps rs fr i := by
 have h1 := val_in (rs := rs) (fr := fr) hi
 have h2 := h.acc.fl.hz (2 + 2 * i : Nat) (by omega) (by simp only [nN]; omega) (by omega) (by omega)
 omega
theorem IsPlan.sent (h : IsPlan ps rs fr) : sumI (fun k => fr.fl (ps.length + k)) (ofN ps 1 ps.length).length = fr.sent := by
 rw [← h.acc.hv, val_0 (chk_caps h.chk).2.2]
theorem IsPlan.snd (h : IsPlan ps rs fr) {k : Nat} (hk : k < rs.length) : SoundP ps rs[k] := (chk_caps h.chk).2.2.h k hk hk
theorem IsPlan.in_0 (h : IsPlan ps rs fr) {i : Nat} (hi : isK ps 1 i = true) : sIn ps rs fr i = 0 := sumI_zero fun k hk => if_neg fun h2 => by
 obtain ⟨h3, h4, _, _, _, _, h5⟩ := h.snd hk
 rw [getD_rs hk] at h2
 have h6 : i < ps.length := by omega
 rw [isK_lt h6] at hi
 have : rs[k].to.toNat = i := by omega
 simp only [this] at h5
 exact h5 (by simpa using hi)
set_option maxRecDepth 20000
theorem ok47a (ps : List Spot) (rs : List Road) (kind : Int) (hl : ps.length ≤ 100) : Ok 47 [plant ps rs, .i kind] (IsA (.sl 1 0 (ofN ps kind ps.length).length) [.dead, .arr 1 ((ofN ps kind ps.length).map nE)]) := by
 refine ok_of lw47 (by simp) ?_
 unfold c47 plant sps rds
 simp -implicitDefEqProofs only [rX,↓rY,ofConst,cells?,↓reduceIte,Nat.reduceEqDiff,freshP,cxN,args0]
 intro hm
 refine loopP_ghost (.virt 1 1 (by decide) (.nilE 5 1 rfl (.refl _))) (fun k : Nat => ⟨[(11, .i k), (10, .i ps.length), (9, .ro 3 (ps.map Spot.enc)), (5, .sl 1 0 (ofN ps kind k).length), (2, .ptr 0 0 0), (1, .i kind)], [.var [.ro 3 (ps.map Spot.enc), .ro 4 (rs.map Road.enc)], .arr 1 ((ofN ps kind k).map nE)], 0⟩) (fun k => k ≤ ps.length) (fun k => ps.length - k) 0 (by omega) ?_ ?_
 ·simp -implicitDefEqProofs only [rX,↓reduceIte,Nat.reduceEqDiff,reduceCtorEq,leE,leH,leB,leV,leVs,keepP,liveP,wfE,wfB,wfV,wfL,yC,ofN,List.range_zero,List.filter_nil]
 rintro k hk
 unfold c47l0
 simp -implicitDefEqProofs only [rX,↓rY,rZ,ofConst,cells?,splice,↓reduceIte,Nat.reduceEqDiff,Nat.reduceAdd,reduceCtorEq,freshP,litsP,leE,leH,leB,leV,leVs,keepP,liveP,wfE,wfB,wfV,wfL,killE,killB,kill,kills,St.kill,isD,Nat.reduceLT]
 simp only [br, uG, decide_eq_true_eq, decide_eq_false_iff_not]
 refine ⟨fun h => ⟨⟨by omega, h⟩, by omega, ?_⟩, fun h => ?_⟩
 ·have hk : k < ps.length := by omega
  have hs := ofN_succ (ps := ps) (kind := kind) (n := k)
  have hl2 := ofN_len (ps := ps) (kind := kind) (n := k)
  rw [isK_lt hk] at hs
  refine ⟨fun h3 => ⟨by omega, by simp only [lo, hi, maxLen] at *; omega, k + 1, ⟨by omega, by omega⟩, ⟨by omega, ?_⟩, ?_⟩, fun h3 => ⟨by simp only [lo, hi, maxLen] at *; omega, k + 1, ⟨by omega, by omega⟩, ⟨by omega, ?_⟩, ?_⟩⟩
  ·rw [hs, h3]; simp
  ·rw [hs, h3, yL (by simp)]; simp [nE]
  ·rw [hs, h3]; simp
  ·rw [hs, h3]; simp
 ·have hk : k = ps.length := by omega
  subst hk
  simp [qa, qb, qc, qd, qe, qf, qh, qi, qj, qk, ql, qm, qn, qo, qp, qq, qr, qs, qt, qu, qv, qw, qx, qy, qz, qA, qB, qC, qD, qE, qF, qG, qH, qI, qJ, qK, qL, qM, qN, rdK, qO, qP, qQ, qR, qS, qT, qU, qV, qW, qX, qY, qZ, za, zb, zc, zd, ze, zf, zg, zh, zi, zj, zk, zl, zm, zn, zo, zp, zq, zr, zt, zu, zv, zw, zx, zy, zz, zA, zB, zC, zD, zE, zF, zG, zH, zJ, zK, zL, zM, zN, zO, zP, zQ, zR, zS, zT, zU, zV, zW, zX, zY, zZ, ka, kc, ke, kf, kg, kh, ki, kj, kk, kn, ko, kp, kq, kr, kv, kw, kx, ky, kz, kA, kB, kC, kD, kF, kG, kH, kI, ofConst, cells?, yT, yW, List.set_cons_zero, splice, kJ, yA, List.getElem?_cons_zero, ↓reduceIte, Nat.reduceEqDiff, yS, kK, kL, arrSz, kM, Bool.not_true, Bool.not_false, ↓kN, ↓kO, kP, kQ, List.nil_append, List.cons_append, yK, Nat.zero_add, Nat.reduceAdd, Nat.add_zero, reduceCtorEq, freshP, Option.map_some, Option.map_none, slcOk, Option.getD_none, buildP, litsP, kR, resP, tupV, List.reverse_cons, List.reverse_nil, kS, leE, leH, leB, leV, leVs, keepP, liveP, wfE, wfB, wfV, wfL, killE, killB, kill, kills, St.kill, vC, vJ, List.drop_zero, List.take_zero, List.take_nil, List.drop_nil, List.all_cons, List.all_nil, isD, isC, Bool.and_true, Bool.and_self, true_and, and_true, and_self, V.v.injEq, Value.int.injEq, Value.bool.injEq, uH, List.not_mem_nil, or_false, false_or, yO, yV, List.length_replicate, not_false_eq_true, uI, Nat.reduceLT, Nat.reduceLeDiff, yG, lg0, kT, kU, kV, kW, lg1, kX, kY, kZ, wa, lg2, wb, wc, wd, we, lg3, wg, wh, wi, wj, lg4, wl, wm, wn, wo, lg5, wq, wr, wt, wu, lg6, ww, wx, wy, wz, lg7, wB, wC, wD, wE, lg8, wF, wG, wH, wI, lg9, wJ, wK, wL, wM, wN, wO, wP, wQ, wR, wS, wU, wV, wW, wX, wY, wZ, ja, jb, jc, jd, je, jf, jg, jh, ji, jj, jk, jl, jm, jn, jo, jp, jq, jr, jt, ju, jv, jx, jy, jz, jA, jB, jC, jD, jE, jF, jG, jH, jI, jJ, jK, jL, jM, jN, jO, jP, jQ, jR, jS, jT, jU, jV, jW, jX, jY, jZ, qaa, ↓qab, ↓qac, ↓qad, ↓qae, ↓qaf, ↓qag, ↓qah, ↓qai, ↓qaj, ↓qak, ↓qal, ↓qam, ↓qan, ↓qao, ↓qap, ↓qaq, ↓qar, ↓qas, ↓qat, ↓qau, ↓qav, ↓qaw, ↓qax, ↓qay, ↓qaz, ↓qaA, ↓qaB, ↓qaC, ↓qaD, ↓qaE, ↓qaF, ↓qaG, ↓qaH, ↓qaI, ↓qaJ, ↓qaK, ↓qaL, ↓qaM, ↓qaN, ↓qaO, ↓qaP, ↓qaQ, ↓qaR, ↓qaS, ↓qaT, ↓qaU, ↓qaV, ↓qaW, ↓qaX, ↓qaY, ↓qaZ, ↓qba, ↓qbb, ↓qbc, ↓qbd, ↓qbe, ↓qbf, ↓qbg, ↓qbh, ↓qbi, ↓qbj, ↓qbk, ↓qbl, ↓qbm, ↓qbn, ↓qbo, ↓qbp, ↓qbq, ↓qbr, ↓qbs, ↓qbt, ↓qbu, ↓qbv, ↓qbw, ↓qbx, ↓qby, ↓qbz, ↓qbA, ↓qbB, ↓qbC, ↓qbD, ↓qbE, ↓qbF, ↓qbG, ↓qbH, ↓qbI, ↓qbJ, ↓qbK, ↓qbL, ↓qbM, ↓qbN, ↓qbO, ↓qbP, ↓qbQ, ↓qbR, ↓qbS, ↓qbT, ↓qbU, ↓qbV, ↓qbW, ↓qbX, ↓qbY, ↓qbZ, ↓qca, ↓qcb, ↓qcc, ↓qcd, ↓qce, ↓qcf, ↓qcg, ↓qch, ↓qci, ↓qcj, yV, vI, al_len, al_take, al_0, al_1, al_2, al_isC, al_isD, sp_len, sp_take, sp_0, sp_1, sp_2, sp_isC, sp_isD, rd_len, rd_take, rd_0, rd_1, rd_2, rd_3, rd_isC, rd_isD, enc_len, enc_take, enc_0, enc_1, enc_2, enc_3, enc_isC, enc_isD, encI_len, encI_0, encB_len, encB_0, uG, encI_drop, encB_drop, cxN, retP_isA, leH, leB, wfB, wfL, wfV, keepP]
def fullB (ps : List Spot) (fr : Fr) (i : Nat) : Bool := decide (capAt ps i ≤ fr.fl i)
abbrev plB (ps : List Spot) (rs : List Road) : Blk := .var [.ro 3 (ps.map Spot.enc), .ro 4 (rs.map Road.enc)]
section
variable (ps : List Spot) (rs : List Road) (fr : Fr)
theorem ok54 (i : Nat) (hi : i < ps.length) (hl : ps.length ≤ fr.flow.length) : OkN Try.prog 54 [.i i, .ptr 1 0 0, .ptr 0 0 0] [plB ps rs, K.frB fr] [] (IsA (.b (fullB ps fr i)) [plB ps rs, K.frB fr]) := by
 refine okN_of pol [0, 1] lw54 (by simp) ⟨trivial, trivial, trivial⟩ (by simp; omega) ?_
 unfold c54 plB K.frB
 simp -implicitDefEqProofs only [rX,↓rY,rZ,ofConst,↓reduceIte,Nat.reduceEqDiff,Nat.reduceAdd,reduceCtorEq,resP,tupV,leH,leB,leV,leVs,keepP,liveP,wfB,wfV,wfL,cxN,args0,cxN,retP_isA]
 refine ⟨⟨by omega, by omega⟩, by omega, ⟨by omega, by omega⟩, hi, ?_⟩
 rw [fullB, capAt_lt hi, Fr.fl, yA, yB (by omega), yS]
def firstF (l : List Nat) : Int := if l.any (fullB ps fr) then (l.findIdx (fullB ps fr) : Nat) else -1
theorem ok82s (l : List Nat) (hi : ∀ i ∈ l, i < ps.length) (hl : ps.length ≤ fr.flow.length) (hn : l.length ≤ 100) : OkN Try.prog 82 [.bro 1 (l.map nE), .clo 54 [.ptr 1 0 0, .ptr 0 0 0]] [plB ps rs, K.frB fr] [] (IsA (.i (firstF ps fr l)) [plB ps rs, K.frB fr]) := by
 refine okN_of pol [0, 1] lw82 (by simp) ⟨trivial, trivial, trivial⟩ (by simp; omega) ?_
 unfold c82
 simp -implicitDefEqProofs only [rX,↓rY,ofConst,↓reduceIte,Nat.reduceAdd,reduceCtorEq,cxN,args0,cxN]
 intro hm
 refine loopP_intro (fun k : Nat => ⟨[(8, .i k), (7, .i l.length), (1, .clo 54 [.ptr 1 0 0, .ptr 0 0 0]), (0, .bro 1 (l.map nE))], [plB ps rs, K.frB fr], 0⟩) (fun k => k ≤ l.length ∧ ∀ j (h : j < l.length), j < k → fullB ps fr l[j] = false) (fun k => l.length - k) 0 (by simp) ?_ ?_
 ·simp -implicitDefEqProofs only [rX,↓reduceIte,Nat.reduceEqDiff,reduceCtorEq,leE,leH,leB,leV,leVs,keepP,liveP,wfE,wfB,wfV,wfL,yC,plB,K.frB,leVs,leV]
 rintro k ⟨hk, hv⟩
 unfold c82l0
 simp -implicitDefEqProofs only [rX,↓rY,ofConst,↓reduceIte,Nat.reduceEqDiff,Nat.reduceAdd,reduceCtorEq,nE]
 simp only [br, uG, decide_eq_true_eq, decide_eq_false_iff_not]
 refine ⟨fun h => ⟨⟨by omega, h⟩, by omega, ?_⟩, fun h => ?_⟩
 ·have hk : k < l.length := by omega
  refine call_isN [0, 1] [.i l[k], .ptr 1 0 0, .ptr 0 0 0] (.b (fullB ps fr l[k])) (.b (fullB ps fr l[k])) [plB ps rs, K.frB fr] [plB ps rs, K.frB fr] [plB ps rs, K.frB fr] (ok54 ps rs fr l[k] (hi _ (yD _)) hl) ⟨by simp, by simp⟩ rfl (by simp [lendsOk, lendOk, lends, lend, wkL, wk, pos]) (by simp) rfl rfl ⟨trivial, trivial, trivial⟩ ?_
  cases hb : fullB ps fr l[k] with
  | true =>
   simp -implicitDefEqProofs only [rX,↓rY,↓reduceIte,Nat.reduceEqDiff,Nat.reduceAdd,resP,tupV,leH,leB,leV,leVs,keepP,liveP,wfB,wfV,wfL,retP_isA]
   have h1 : l.any (fullB ps fr) = true := by
    rw [List.any_eq_true]; exact ⟨_, yD hk, hb⟩
   have h2 : l.findIdx (fullB ps fr) = k := by
    rw [List.findIdx_eq hk]
    exact ⟨hb, fun j hj => hv j (by omega) hj⟩
   simp -implicitDefEqProofs only [rX,leV,leVs,wfB,wfV,wfL,plB,K.frB]
   simp [firstF, h1, h2]
  | false =>
   simp -implicitDefEqProofs only [rX,↓rY,ofConst,↓reduceIte,Nat.reduceEqDiff,Nat.reduceAdd,reduceCtorEq,leE,leH,leB,leV,leVs,keepP,liveP,wfE,wfB,wfV,wfL]
   refine ⟨by simp only [lo, Fx.hi, maxLen] at hm ⊢; omega, k + 1, ⟨⟨by omega, fun j hj h2 => ?_⟩, by omega⟩, by simp, ?_⟩
   ·by_cases h3 : j = k
    ·subst h3; exact hb
    ·exact hv j hj (by omega)
   ·simp -implicitDefEqProofs only [rX,leV,leVs,wfB,wfV,wfL,plB,K.frB]
 ·have : k = l.length := by omega
  have hall : l.any (fullB ps fr) = false := by
   rw [List.any_eq_false]; intro x hx
   obtain ⟨j, hj, rfl⟩ := yN hx
   simpa using hv j hj (by omega)
  simp -implicitDefEqProofs only [rX,↓reduceIte,Nat.reduceAdd,resP,tupV,leH,leB,leV,leVs,keepP,liveP,wfB,wfV,wfL,retP_isA]
  simp -implicitDefEqProofs only [rX,leV,leVs,wfB,wfV,wfL,plB,K.frB]
  simp [firstF, hall]
def keptN (l : List Nat) : List Nat := l.filter fun i => !fullB ps fr i
theorem ok53 (l : List Nat) (hi : ∀ i ∈ l, i < ps.length) (hl : ps.length ≤ fr.flow.length) (hn : l.length ≤ 100) :
  OkN Try.prog 53 [.sl 2 0 l.length, .clo 54 [.ptr 1 0 0, .ptr 0 0 0]] [plB ps rs, K.frB fr, .arr 1 (l.map nE)] [] (IsQ (fun z : List Nat => True) (fun _ => .sl 2 0 (keptN ps fr l).length) (fun z => [plB ps rs, K.frB fr, .arr 1 ((keptN ps fr l ++ z).map nE)])) := by
 refine okN_of pol [0, 1, 2] lw53 (by simp) ⟨trivial, trivial, trivial, trivial⟩ (by simp; omega) ?_
 unfold c53
 simp -implicitDefEqProofs only [rX,ofConst,↓reduceIte,Nat.reduceEqDiff,Nat.reduceAdd,reduceCtorEq,cxN,args0,cxN]
 have htk : yE l.length (l.map nE) = l.map nE := yL (by simp)
 refine call_isN [0, 1] [.bro 1 (l.map nE), .clo 54 [.ptr 1 0 0, .ptr 0 0 0]] (.i (firstF ps fr l)) (.i (firstF ps fr l)) [plB ps rs, K.frB fr] [plB ps rs, K.frB fr] _ (ok82s ps rs fr l hi hl hn) ⟨by simp, by simp⟩ rfl (by simp [lendsOk, lendOk, lends, lend, wkL, wk, wkB, wkR, pos, lnat, blk, htk]) (by simp) rfl rfl ⟨trivial, trivial, trivial, trivial⟩ ?_
 simp -implicitDefEqProofs only [rX,↓rY,ofConst,↓reduceIte,Nat.reduceEqDiff,Nat.reduceAdd,reduceCtorEq,plB,K.frB,setAll,renB,rens,ren]
 rw [firstF]
 cases hany : l.any (fullB ps fr) with
 | false =>
  simp only [uI, if_false, beq_self_eq_true, br, true_implies]
  have hk : keptN ps fr l = l := by
   rw [keptN, uT]
   intro a ha
   have := List.any_eq_false.1 hany a ha
   simpa using this
  refine ⟨?_, fun h => by cases h⟩
  refine retP_isQ (Q := fun _ : List Nat => True) [] trivial ?_
  simp -implicitDefEqProofs only [rX,↓reduceIte,Nat.reduceAdd,resP,tupV,leH,leB,leV,leVs,keepP,liveP,wfB,wfV,wfL,hk]
 | true =>
 obtain ⟨a, ha, hfa⟩ := List.any_eq_true.1 hany
 have hlt : l.findIdx (fullB ps fr) < l.length := List.findIdx_lt_length_of_exists ⟨a, ha, hfa⟩
 generalize hm0 : l.findIdx (fullB ps fr) = m0 at *
 have hne : (((m0 : Nat) : Int) == -1) = false := by simp
 simp only [if_true, hne, br, uI, false_implies, true_implies, true_and]
 refine ⟨by simp only [lo, Fx.hi]; omega, ?_⟩
 have hpre : (l.take (m0 + 1)).filter (fun i => !fullB ps fr i) = l.take m0 := by
  rw [uU hlt, vO, uT.2]
  ·have : fullB ps fr (l[m0]) = true := by subst hm0; exact List.findIdx_getElem
   simp [this]
  ·intro a ha
   obtain ⟨j, hj, rfl⟩ := yN ha
   rw [List.getElem_take]
   have := List.not_of_lt_findIdx (p := fullB ps fr) (xs := l) (i := j) (by rw [hm0]; rw [List.length_take] at hj; omega)
   simpa using this
 refine loopP_intro (fun g : Nat × List Nat => ⟨[(6, .i g.1), (5, .i ((l.take g.1).filter fun i => !fullB ps fr i).length), (0, .sl 2 0 l.length), (1, .clo 54 [.ptr 1 0 0, .ptr 0 0 0])], [plB ps rs, K.frB fr, .arr 1 (((l.take g.1).filter (fun i => !fullB ps fr i) ++ g.2 ++ l.drop g.1).map nE)], 0⟩) (fun g => g.1 ≤ l.length ∧ 0 < g.2.length ∧ ((l.take g.1).filter fun i => !fullB ps fr i).length + g.2.length = g.1) (fun g => l.length - g.1) (m0 + 1, [l[m0]]) ⟨by omega, by simp, by rw [hpre]; simp; omega⟩ ?_ ?_
 ·simp -implicitDefEqProofs only [rX,↓reduceIte,Nat.reduceEqDiff,reduceCtorEq,leE,leH,leB,leV,leVs,keepP,liveP,wfE,wfB,wfV,wfL,plB,K.frB,hpre]
  refine ⟨⟨by omega, by rw [List.length_take]; omega⟩, ?_⟩
  congr 2
  rw [vD]
  simp
 rintro ⟨j, mid⟩ ⟨hj, hmid, hlen⟩
 simp only at hj hmid hlen
 unfold c53l0
 generalize hA : (l.take j).filter (fun i => !fullB ps fr i) = A at *
 simp -implicitDefEqProofs only [rX,↓rY,↓reduceIte,Nat.reduceEqDiff,arrSz,Nat.reduceAdd,reduceCtorEq,slcOk,plB,K.frB]
 intro hmx
 simp only [br, decide_eq_true_eq, decide_eq_false_iff_not]
 refine ⟨fun h => ?_, fun h => ?_⟩
 ·have hj2 : j < l.length := by omega
  have hLl : (A ++ mid ++ l.drop j).length = l.length := by simp; omega
  have hLj : (A ++ mid ++ l.drop j)[j]'(by omega) = l[j] := by
   rw [List.getElem_append_right (by simp; omega)]
   simp [show j - (A.length + mid.length) = 0 by omega]
  refine ⟨⟨by omega, h⟩, by rw [yX]; omega, ?_⟩
  rw [hLj]
  simp -implicitDefEqProofs only [rX,↓rY,nE]
  refine call_isN [0, 1] [.i l[j], .ptr 1 0 0, .ptr 0 0 0] (.b (fullB ps fr l[j])) (.b (fullB ps fr l[j])) [plB ps rs, K.frB fr] [plB ps rs, K.frB fr] _ (ok54 ps rs fr l[j] (hi _ (yD _)) hl) ⟨by simp, by simp⟩ rfl (by simp [lendsOk, lendOk, lends, lend, wkL, wk, pos]) (by simp) rfl rfl ⟨trivial, trivial, trivial, trivial⟩ ?_
  have hA1 : (l.take (j + 1)).filter (fun i => !fullB ps fr i) = A ++ (if fullB ps fr l[j] = true then [] else [l[j]]) := by
   rw [uU hj2, vO, hA]
   cases hfb : fullB ps fr l[j] <;> simp [hfb]
  have hd : l.drop j = l[j] :: l.drop (j + 1) := List.drop_eq_getElem_cons hj2
  cases hb : fullB ps fr l[j] with
  | true =>
   rw [hb, if_pos rfl, yK] at hA1
   simp -implicitDefEqProofs only [rX,↓rY,ofConst,↓reduceIte,Nat.reduceEqDiff,Nat.reduceAdd,reduceCtorEq,leE,leH,leB,leV,leVs,keepP,liveP,wfE,wfB,wfV,wfL,plB,K.frB,setAll,renB,rens,ren]
   refine ⟨by simp only [lo, Fx.hi]; omega, (j + 1, mid ++ [l[j]]), ?_, ?_⟩
   ·simp only [hA1, yO, yW, yT]
    omega
   ·simp -implicitDefEqProofs only [rX,hA1]
    refine ⟨by omega, ?_⟩
    congr 2
    rw [hd]; simp
  | false =>
   rw [hb, if_neg (by simp)] at hA1
   simp -implicitDefEqProofs only [rX,↓rY,ofConst,cells?,splice,↓reduceIte,Nat.reduceEqDiff,arrSz,Nat.reduceAdd,reduceCtorEq,leE,leH,leB,leV,leVs,keepP,liveP,wfE,wfB,wfV,wfL,isD,isC,plB,K.frB,setAll,renB,rens,ren]
   obtain ⟨x, ms, rfl⟩ : ∃ x ms, mid = x :: ms := by
    cases mid with
    | nil => simp at hmid
    | cons x ms => exact ⟨x, ms, rfl⟩
   simp only [yW] at hlen
   refine ⟨⟨by omega, by omega⟩, by rw [yX, yW]; omega, by simp only [lo, Fx.hi]; omega, by simp only [lo, Fx.hi]; omega, (j + 1, ms ++ [l[j]]), ?_, ?_⟩
   ·simp only [hA1, yO, yW, yT]
    omega
   ·simp only [hA1, yO, yW, yT]
    refine ⟨⟨by omega, by omega⟩, ?_⟩
    congr 1
    have e : (V.v (.int .i64 ((l[j] : Nat) : Int)) :: vE 1 (nE ((A ++ x :: ms ++ l.drop j)[A.length]'(by simp)))) = nE l[j] := rfl
    rw [e, ← List.map_set]
    congr 1
    rw [hd]
    simp
 ·have hj3 : j = l.length := by omega
  subst hj3
  rw [vK] at hA
  have hk : keptN ps fr l = A := hA
  refine ⟨⟨⟨by omega, by omega⟩, by omega⟩, by rw [yX]; omega, ⟨⟨by omega, by omega⟩, by omega, by omega⟩, ?_⟩
  refine retP_isQ (Q := fun _ : List Nat => True) (yY (l.length - A.length) 0) trivial ?_
  rw [hk, List.drop_length, yK]
  have e1 : yE A.length ((A ++ mid).map nE) = A.map nE := by simp
  have e2 : vE (A.length + (l.length - A.length)) ((A ++ mid).map nE) = [] := List.drop_of_length_le (by simp; omega)
  rw [e1, e2]
  simp -implicitDefEqProofs only [rX,↓reduceIte,Nat.reduceAdd,resP,tupV,leH,leB,leV,leVs,keepP,liveP,wfB,wfV,wfL,yF,List.map_replicate]
  refine ⟨rfl, ?_⟩
  rfl
theorem ok27 (hi : ps.length ≤ 10) (hl : ps.length ≤ fr.flow.length) : Ok 27 [plant ps rs, fr.enc] (Is (lnat (keptN ps fr (ofN ps 1 ps.length)))) := by
 refine okN_give (R := fun r hs => wk (lnat (keptN ps fr (ofN ps 1 ps.length))) (gvV (fun _ => true) hs r)) ?_ fun _ _ h => h
 refine ok_of lw27 (by simp) ?_
 unfold c27 plant sps rds Fr.enc li
 simp -implicitDefEqProofs only [rX,↓rY,ofConst,cells?,↓reduceIte,Nat.reduceEqDiff,Nat.reduceAdd,reduceCtorEq,freshP,cxN,args0]
 refine call_isA [plant ps rs, .i 1] (.sl 1 0 (ofN ps 1 ps.length).length) (.sl 3 0 (ofN ps 1 ps.length).length) [.dead, .arr 1 ((ofN ps 1 ps.length).map nE)] [.dead, .arr 1 ((ofN ps 1 ps.length).map nE)] (ok47a ps rs 1 (by omega)) (by simp [plant, sps, rds, lendsOk, lendOk, lends, lend, wkL, wk, wkR]) rfl rfl trivial ?_
 simp -implicitDefEqProofs only [rX,↓reduceIte,Nat.reduceEqDiff]
 refine call_isM (fun z : List Nat => True) [0, 1, 3] [] [] [.sl 2 0 (ofN ps 1 ps.length).length, .clo 54 [.ptr 1 0 0, .ptr 0 0 0]] (fun _ => .sl 2 0 (keptN ps fr (ofN ps 1 ps.length)).length) [plB ps rs, K.frB fr, .arr 1 ((ofN ps 1 ps.length).map nE)] (fun z => [plB ps rs, K.frB fr, .arr 1 ((keptN ps fr (ofN ps 1 ps.length) ++ z).map nE)]) (ok53 ps rs fr _ (fun i h => ofN_mem h) hl (by have := ofN_len (ps := ps) (kind := 1) (n := ps.length); omega)) ⟨by simp, by simp⟩ ⟨rfl, by simp⟩ rfl (by simp [lendsOk, lendOk, lends, lend, wkL, wk, pos]) fun z _ => ⟨trivial, ?_⟩
 simp -implicitDefEqProofs only [rX,↓reduceIte,Nat.reduceAdd,resP,tupV,keepP,killE,killB,kill,kills,St.kill,plB,K.frB,setAll,ren,rens,renB,retP_eq]
 have hb : back [0, 1, 3] 4 2 = some 3 := rfl
 rw [hb]
 refine ⟨_, ⟨leH_rf _, by simp, by simp [wfB, wfL, wfV, liveP]⟩, ?_⟩
 simp [gvV, gvL, wk, wkR, blk, lnat]
end
end Go.Fx.P
namespace Go.Fx.P.F
open Go Go.Fx Go.Proofs
abbrev cx0 : Cx := cxN Try.prog []
abbrev OkN (f : FuncId) (xs : List V) (h0 : List Blk) (R : V → List Blk → Prop) : Prop := Go.Fx.OkN Try.prog f xs h0 [] R
def lb (l : List Bool) : V := .ro 1 (l.map encB)
def bli (l : List Int) : V := .bro 1 (l.map encI)
variable {f : FuncId} {args : List V} {e : Env} {h : List Blk} {b : Nat} {bn : List Nat} {K : V → St → Prop}
theorem call_is {xs : List V} {x : V} (hC : Ok f xs (Is x)) (h1 : lendsOk h (fun _ => none) args ∧ wkL xs (lends h (fun _ => none) args))
  (hx : ren (fun j => some (h.length + j)) x = x) (h3 : K x ⟨e, h, b⟩) : callP ⟨C0 Try.prog, [], bn, I0 Try.prog, Y0, none⟩ f args ⟨e, h, b⟩ K :=
 Go.Fx.call_is hC h1 hx trivial h3
theorem call_isA (xs : List V) (x x' : V) (h0 h0' : List Blk) (hC : Ok f xs (IsA x h0)) (h1 : lendsOk h (fun _ => none) args ∧ wkL xs (lends h (fun _ => none) args))
  (hx : ren (fun j => some (h.length + j)) x = x') (hh : h0.map (renB (fun j => some (h.length + j))) = h0') (h3 : K x' ⟨e, h ++ h0', b⟩) : callP ⟨C0 Try.prog, [], bn, I0 Try.prog, Y0, none⟩ f args ⟨e, h, b⟩ K :=
 Go.Fx.call_isA xs x x' h0 h0' hC h1 hx hh trivial h3
theorem okN_of {f : FuncId} {l0 l : LCode} {rs : List LRes} {nt : Nat} (fx : List Nat) (hl : rlF Try.prog f l0 = some (l, rs, nt)) {args : List V} {h0 : List Blk} {R : V → List Blk → Prop} (hlen : args.length ≤ nt) (hb : keepP fx h0) (hfx : fx = yP h0.length)
  (h : aw (Go.Fx.cxN Try.prog fx) l (retP fx h0.length rs R) (fun _ _ => False) (retP fx h0.length rs R) ⟨args0 0 args, h0, 0⟩) : OkN f args h0 R :=
 Go.Fx.okN_of pol fx hl hlen hb (fun k hk _ => by rw [hfx, yJ]; exact hk) h
theorem call_isN {fx : List Nat} (ι : List Nat) (xs : List V) (x x' : V) (h0 h1 h' : List Blk) (hC : OkN f xs h0 (IsA x h1))
  (hι : ι.Nodup ∧ ∀ k ∈ ι, k < h.length ∧ k ∉ bn) (r0 : ι.map (fun k => renB (pos ι) (blk h k)) = h0) (ha : lendsOk h (pos ι) args ∧ wkL xs (lends h (pos ι) args)) (hlen : ι.length ≤ h1.length)
  (hh : setAll ι (h1.map (renB (back ι h.length))) h = h') (hx : ren (back ι h.length) x = x') (keep : keepP fx h') (h3 : K x' ⟨e, h', b⟩) : callP ⟨C0 Try.prog, fx, bn, I0 Try.prog, Y0, none⟩ f args ⟨e, h, b⟩ K :=
 Go.Fx.call_isN ι xs x x' h0 h1 h' hC hι r0 ha hlen hh hx keep h3
end Go.Fx.P.F
namespace Go.Fx.P.F
open Go Go.Fx Go.Proofs
set_option maxRecDepth 20000
def validA (n : Int) (a : Arc) : Bool := decide ((0 ≤ a.from_ ∧ a.from_ < n) ∧ (0 ≤ a.to ∧ a.to < n) ∧ a.from_ ≠ a.to ∧ 0 ≤ a.cap ∧ a.cap ≤ 1073741824)
def nb (n : Int) : Blk := .var [.i n, .any]
end Go.Fx.P.F
namespace Go.Fx.P.F
open Go Go.Fx Go.Proofs
set_option maxRecDepth 20000
theorem ok26 (a b : List Int) : Ok 26 [li a, li b] (Is (.b (decide (a = b)))) := by
 refine ok_of lw26 (by simp) ?_
 unfold c26
 simp -implicitDefEqProofs only [rX,↓rY,ofConst,↓reduceIte,Nat.reduceEqDiff,reduceCtorEq,resP,tupV,wfV,cxN,args0,li]
 simp only [br, decide_eq_true_eq, decide_eq_false_iff_not, bne_iff_ne, bne_eq_false_iff_eq]
 refine fun ha hb => ⟨fun h => ?_, fun h => ?_⟩
 ·have : ¬ a = b := fun h2 => h (by rw [h2])
  simp [this]
 refine loopP_intro (fun k : Nat => ⟨[(5, .i k), (0, .ro 1 (a.map encI)), (1, .ro 1 (b.map encI))], [], 0⟩) (fun k => k ≤ a.length ∧ ∀ j (h1 : j < a.length) (h2 : j < b.length), j < k → a[j] = b[j]) (fun k => a.length - k) 0 (by simp) ?_ ?_
 ·simp -implicitDefEqProofs only [rX,↓reduceIte,Nat.reduceEqDiff,reduceCtorEq,leE,leH,keepP,wfE,wfB,wfV,yC]
 rintro k ⟨hk, hv⟩
 unfold c26l0
 simp -implicitDefEqProofs only [rX,↓rY,rZ,ofConst,↓reduceIte,Nat.reduceEqDiff,reduceCtorEq,resP,tupV,leE,leH,keepP,wfE,wfB,wfV]
 simp only [br, decide_eq_true_eq, decide_eq_false_iff_not, bne_iff_ne, bne_eq_false_iff_eq]
 refine fun hm => ⟨fun h1 => ⟨⟨by omega, by omega⟩, by omega, ⟨by omega, by omega⟩, by omega, fun h2 => ?_, fun h2 => ⟨?_, k + 1, ⟨⟨by omega, fun j q1 q2 q3 => ?_⟩, by omega⟩, by simp⟩⟩, fun h1 => ?_⟩
 ·have : ¬ a = b := by
   intro he
   subst he
   exact h2 rfl
  simp [this]
 ·simp only [lo, hi, maxLen] at *; omega
 ·by_cases q4 : j = k
  ·subst q4; exact h2
  ·exact hv j q1 q2 (by omega)
 ·have : a = b := by
   apply yZ
   ·omega
   ·intro j q1 q2
    exact hv j q1 q2 (by omega)
  simp [this]
end Go.Fx.P.F
namespace Go.Fx.P.F
open Go Go.Fx Go.Proofs
def endsB (n f t : Int) : Bool := decide ((0 ≤ f ∧ f < n) ∧ (0 ≤ t ∧ t < n) ∧ f ≠ t)
theorem ok58 (n : Int) (arcs : List Arc) (f t : Int) : Ok 58 [net n arcs, .i f, .i t] (Is (.b (endsB n f t))) := by
 refine ok_of lw58 (by simp) ?_
 unfold c58 net
 simp -implicitDefEqProofs only [rX,↓rY,ofConst,cells?,↓reduceIte,Nat.reduceEqDiff,Nat.reduceAdd,reduceCtorEq,freshP,resP,tupV,wfV,cxN,args0]
 simp only [br, decide_eq_true_eq, decide_eq_false_iff_not, endsB]
 grind
theorem ok102 (n : Int) (arcs : List Arc) (f t : Int) : Ok 102 [net n arcs, .i f, .i t] (Is (.b (endsB n f t))) := by
 refine ok_of lw102 (by simp) ?_
 unfold c102 net
 simp -implicitDefEqProofs only [rX,↓rY,ofConst,cells?,↓reduceIte,Nat.reduceEqDiff,Nat.reduceAdd,reduceCtorEq,freshP,resP,tupV,wfV,cxN,args0]
 simp only [br, decide_eq_true_eq, decide_eq_false_iff_not, endsB]
 grind
end Go.Fx.P.F
namespace Go.Fx.P.F
open Go Go.Fx Go.Proofs
set_option maxRecDepth 20000
def valTo (arcs : List Arc) (node : Int) (flow : List Int) : Nat → Int
 | 0 => 0
 | k + 1 => valTo arcs node flow k + (if (arcs.getD k ⟨0,0,0,0⟩).from_ = node then flow.getD k 0 else 0) - (if (arcs.getD k ⟨0,0,0,0⟩).to = node then flow.getD k 0 else 0)
theorem valTo_bound (arcs : List Arc) (node : Int) (flow : List Int) (hf : ∀ x ∈ flow, 0 ≤ x ∧ x ≤ 1073741824) : ∀ k : Nat, -((k : Int) * 1073741824) ≤ valTo arcs node flow k ∧ valTo arcs node flow k ≤ (k : Int) * 1073741824
 | 0 => by simp [valTo]
 | k + 1 => by
  have h1 := valTo_bound arcs node flow hf k
  have h2 : 0 ≤ flow.getD k 0 ∧ flow.getD k 0 ≤ 1073741824 := by
   rw [yA]
   cases h : flow[k]? with
   | none => simp
   | some x => exact hf x (uC h)
  simp only [valTo]
  split <;> split <;> omega
theorem valTo_step {arcs : List Arc} {node : Int} {flow : List Int} {k : Nat} (h1 : k < arcs.length) (h2 : k < flow.length) : valTo arcs node flow (k + 1) = valTo arcs node flow k + (if arcs[k].from_ = node then flow[k] else 0) - (if arcs[k].to = node then flow[k] else 0) := by
 simp only [valTo, yA, yB h1, yB h2, yS]
theorem ok79 (n node : Int) (arcs : List Arc) (flow : List Int) (hl : flow.length = arcs.length) (hb : arcs.length ≤ 4096) (hf : ∀ x ∈ flow, 0 ≤ x ∧ x ≤ 1073741824) : Ok 79 [net n arcs, .i node, bli flow] (Is (.i (valTo arcs node flow arcs.length))) := by
 refine ok_of lw79 (by simp) ?_
 unfold c79 net bli
 simp -implicitDefEqProofs only [rX,↓rY,ofConst,cells?,↓reduceIte,Nat.reduceAdd,freshP,cxN,args0]
 refine loopP_intro (fun k : Nat => ⟨[(8, .i k), (7, .i (valTo arcs node flow k)), (3, .ptr 0 0 0), (1, .i node), (2, .bro 1 (flow.map encI))], [.var [.i n, .ro 4 (arcs.map Arc.enc)]], 0⟩) (fun k => k ≤ arcs.length) (fun k => arcs.length - k) 0 (by simp) ?_ ?_
 ·simp -implicitDefEqProofs only [rX,↓reduceIte,Nat.reduceEqDiff,reduceCtorEq,leE,leH,leB,leV,leVs,keepP,liveP,wfE,wfB,wfV,wfL,leVs,leV,valTo,yC]
 intro k hk
 simp -implicitDefEqProofs only [rX,↓rY,rZ,ofConst,↓reduceIte,Nat.reduceEqDiff,resP,tupV,leE,leH,leB,leV,leVs,keepP,liveP,wfE,wfB,wfV,wfL]
 simp only [br, decide_eq_true_eq, decide_eq_false_iff_not]
 refine fun hm => ⟨fun h => ⟨⟨by omega, h⟩, by omega, ?_⟩, fun h => ?_⟩
 ·have hk1 : k < arcs.length := by omega
  have hk2 : k < flow.length := by omega
  have hfk := hf flow[k] (yD hk2)
  have hvb := valTo_bound arcs node flow hf k
  have hst := valTo_step (node := node) hk1 hk2
  simp only [lo, hi, beq_iff_eq, beq_eq_false_iff_ne]
  repeat' (first | (refine ⟨(k+1 : _), ?_⟩) | (refine ⟨by omega, ?_⟩) | (refine And.intro ?_ ?_) | (refine (fun _ => ?_)))
  all_goals first | omega | grind
 ·have : k = arcs.length := by omega
  rw [this]
end Go.Fx.P.F
namespace Go.Fx.P.F
open Go Go.Fx Go.Proofs
set_option maxRecDepth 20000
def rowF (N : Nat) (f : Int → Int) : List (List V) := (yP N).map fun j : Nat => encI (f j)
theorem rowF_len {N : Nat} {f : Int → Int} : (rowF N f).length = N := by simp [rowF]
theorem rowF_get {N : Nat} {f : Int → Int} {i : Nat} (h : i < (rowF N f).length) : (rowF N f)[i] = encI (f i) := by simp [rowF]
theorem rowF_set {N : Nat} {f : Int → Int} {i : Nat} {x : Int} : (rowF N f).set i [.v (.int .i64 x)] = rowF N (fun j => if j = i then x else f j) := by
 apply yZ
 ·simp [rowF]
 ·intro j h1 h2
  simp only [uJ, rowF_get]
  by_cases h : i = j
  ·subst h; simp [encI]
  ·have : ¬ (j : Int) = i := by omega
   simp [h, this]
theorem rowF_congr {N : Nat} {f g : Int → Int} (h : ∀ i : Nat, i < N → f i = g i) : rowF N f = rowF N g := by
 simp only [rowF, List.map_inj_left, yJ]
 intro i hi
 rw [h i hi]
theorem ok60 (N : Nat) (arcs : List Arc) (flow : List Int) (hl : flow.length = arcs.length) (hb : arcs.length ≤ 4096) (hn : N ≤ 256) (hf : ∀ x ∈ flow, 0 ≤ x ∧ x ≤ 1073741824) (hv : ∀ a ∈ arcs, (0 ≤ a.from_ ∧ a.from_ < N) ∧ (0 ≤ a.to ∧ a.to < N) ∧ a.from_ ≠ a.to) :
  Ok 60 [net N arcs, li flow] (IsA (.sl 1 0 N) [.dead, .arr 1 (rowF N (fun j => valTo arcs j flow arcs.length))]) := by
 refine ok_of lw60 (by simp) ?_
 unfold c60 net li
 simp -implicitDefEqProofs only [rX,↓rY,ofConst,cells?,↓reduceIte,Nat.reduceEqDiff,Nat.reduceAdd,freshP,cxN,args0]
 refine ⟨by omega, fun hm => ?_⟩
 refine loopP_intro (fun k : Nat => ⟨[(14, .i k), (13, .i arcs.length), (12, .ro 4 (arcs.map Arc.enc)), (5, .sl 1 0 N), (1, .ro 1 (flow.map encI))], [.dead, .arr 1 (rowF N (fun j => valTo arcs j flow k))], 0⟩) (fun k => k ≤ arcs.length) (fun k => arcs.length - k) 0 (by simp) ?_ ?_
 ·have h0 : rowF N (fun j => valTo arcs j flow 0) = yY N [V.i 0] := by
   apply yZ
   ·simp [rowF]
   ·intro i h1 h2
    simp [rowF, valTo, encI]
  simp -implicitDefEqProofs only [rX,↓reduceIte,Nat.reduceEqDiff,reduceCtorEq,leE,leH,leB,keepP,liveP,wfE,wfB,wfV,h0,yC]
 intro k hk
 simp -implicitDefEqProofs only [rX,↓rY,rZ,ofConst,cells?,splice,↓reduceIte,Nat.reduceEqDiff,arrSz,Nat.reduceAdd,freshP,resP,tupV,leE,leH,leB,keepP,liveP,wfE,wfB,wfV,isD,isC,Nat.reduceLeDiff,rowF_len,rowF_get,rowF_set,retP_isA]
 simp only [br, decide_eq_true_eq, decide_eq_false_iff_not]
 refine ⟨fun h => ?_, fun h => ?_⟩
 ·have hk1 : k < arcs.length := by omega
  have hk2 : k < flow.length := by omega
  have hvk := hv arcs[k] (yD hk1)
  have hfk := hf flow[k] (yD hk2)
  have hb1 := valTo_bound arcs arcs[k].from_ flow hf k
  have hb2 := valTo_bound arcs arcs[k].to flow hf k
  have e1 : ((arcs[k].from_.toNat : Nat) : Int) = arcs[k].from_ := by omega
  have e2 : ((arcs[k].to.toNat : Nat) : Int) = arcs[k].to := by omega
  have e3 : ¬ arcs[k].to = arcs[k].from_ := by omega
  simp only [e1, e2, e3, if_false, lo, hi, rowF_len]
  repeat' (first | (refine ⟨(k+1 : _), ?_⟩) | (refine ⟨by omega, ?_⟩) | (refine And.intro ?_ ?_) | (refine (fun _ => ?_)))
  all_goals try omega
  congr 1
  apply rowF_congr
  intro i hi
  simp only [valTo_step (node := i) hk1 hk2]
  grind
 ·have : k = arcs.length := by omega
  rw [this]
theorem ok37 (N : Nat) (node : Int) (arcs : List Arc) (flow : List Int) (hl : flow.length = arcs.length) (hb : arcs.length ≤ 4096) (hn : N ≤ 256) (hf : ∀ x ∈ flow, 0 ≤ x ∧ x ≤ 1073741824) (hv : ∀ a ∈ arcs, (0 ≤ a.from_ ∧ a.from_ < N) ∧ (0 ≤ a.to ∧ a.to < N) ∧ a.from_ ≠ a.to)
  (h0 : 0 ≤ node ∧ node < N) : Ok 37 [net N arcs, .i node, li flow] (Is (.i (valTo arcs node flow arcs.length))) := by
 refine ok_of lw37 (by simp) ?_
 unfold c37 net li
 simp -implicitDefEqProofs only [rX,↓rY,ofConst,cells?,↓reduceIte,Nat.reduceEqDiff,Nat.reduceAdd,reduceCtorEq,freshP,cxN,args0]
 refine call_isA [net N arcs, li flow] (.sl 1 0 N) (.sl 2 0 N) [.dead, .arr 1 (rowF N (fun j => valTo arcs j flow arcs.length))] [.dead, .arr 1 (rowF N (fun j => valTo arcs j flow arcs.length))] (ok60 N arcs flow hl hb hn hf hv) ?_ rfl rfl ?_
 ·simp [net, li, lendsOk, lendOk, lends, lend, wkL, wk, wkB, wkR, pos]
 simp -implicitDefEqProofs only [rX,↓rY,rZ,↓reduceIte,Nat.reduceEqDiff,arrSz,reduceCtorEq,resP,tupV,wfV,rowF_len,rowF_get]
 refine ⟨h0, by omega, ?_⟩
 rw [vH h0.1]
end Go.Fx.P.F
namespace Go.Fx.P.F
open Go Go.Fx Go.Proofs
set_option maxRecDepth 20000
def possP (arcs : List Arc) (flow : List Int) : Prop := ∀ i (h1 : i < flow.length) (h2 : i < arcs.length), 0 ≤ flow[i] ∧ flow[i] ≤ arcs[i].cap
open Classical in
noncomputable def possB (arcs : List Arc) (flow : List Int) : Bool := decide (flow.length = arcs.length ∧ possP arcs flow)
theorem possB_t {arcs : List Arc} {flow : List Int} (h : flow.length = arcs.length ∧ possP arcs flow) : possB arcs flow = true := by simp [possB, h]
theorem possB_f {arcs : List Arc} {flow : List Int} (h : ¬ (flow.length = arcs.length ∧ possP arcs flow)) : possB arcs flow = false := by simp only [possB, h, decide_false]
theorem ok103 (n : Int) (arcs : List Arc) (flow : List Int) : Ok 103 [net n arcs, li flow] (Is (.b (possB arcs flow))) := by
 refine ok_of lw103 (by simp) ?_
 unfold c103 net li
 simp -implicitDefEqProofs only [rX,↓rY,ofConst,cells?,↓reduceIte,Nat.reduceEqDiff,reduceCtorEq,freshP,resP,tupV,wfV,cxN,args0]
 simp only [br, decide_eq_true_eq, decide_eq_false_iff_not, bne_iff_ne, bne_eq_false_iff_eq]
 refine fun hm1 hm2 => ⟨fun h => ?_, fun h => ?_⟩
 ·rw [possB_f]; omega
 refine loopP_intro (fun k : Nat => ⟨[(5, .i k), (2, .ptr 0 0 0), (1, .ro 1 (flow.map encI))], [.var [.i n, .ro 4 (arcs.map Arc.enc)]], 0⟩) (fun k => k ≤ arcs.length ∧ ∀ j (h1 : j < flow.length) (h2 : j < arcs.length), j < k → 0 ≤ flow[j] ∧ flow[j] ≤ arcs[j].cap) (fun k => arcs.length - k) 0 (by simp) ?_ ?_
 ·simp -implicitDefEqProofs only [rX,↓reduceIte,Nat.reduceEqDiff,reduceCtorEq,leE,leH,leB,leV,leVs,keepP,liveP,wfE,wfB,wfV,wfL,leVs,leV,yC]
 rintro k ⟨hk, hv⟩
 simp -implicitDefEqProofs only [rX,↓rY,rZ,ofConst,↓reduceIte,Nat.reduceEqDiff,resP,tupV,leE,leH,leB,leV,leVs,keepP,liveP,wfE,wfB,wfV,wfL]
 simp only [br, decide_eq_true_eq, decide_eq_false_iff_not]
 refine fun _ => ⟨fun h2 => ⟨⟨by omega, h2⟩, by omega, fun q => ?_, fun q1 => ⟨⟨by omega, h2⟩, by omega, ⟨by omega, by omega⟩, by omega, fun q => ?_, fun q2 => ⟨?_, k + 1, ⟨⟨by omega, ?_⟩, by omega⟩, by simp⟩⟩⟩, fun h2 => ?_⟩
 ·rw [possB_f]
  intro hp
  have := hp.2 k (by omega) (by omega)
  omega
 ·rw [possB_f]
  intro hp
  have := hp.2 k (by omega) (by omega)
  omega
 ·simp only [lo, hi, maxLen] at *; omega
 ·intro j h3 h4 h5
  by_cases h6 : j = k
  ·subst h6; omega
  ·exact hv j h3 h4 (by omega)
 ·rw [possB_t]
  exact ⟨by omega, fun i h3 h4 => hv i h3 h4 (by omega)⟩
end Go.Fx.P.F
namespace Go.Fx.P.F
open Go Go.Fx Go.Proofs
set_option maxRecDepth 20000
def okFlow (n : Int) (arcs : List Arc) (f t : Int) (flow : List Int) : Prop := (∀ j : Int, 0 ≤ j → j < n → j ≠ f → j ≠ t → valTo arcs j flow arcs.length = 0) ∧ 0 ≤ valTo arcs f flow arcs.length
open Classical in
noncomputable def checkI (n : Int) (arcs : List Arc) (f t : Int) (flow : List Int) : Int := if ¬ (endsB n f t = true ∧ flow.length = arcs.length) then 1 else if ¬ possP arcs flow then 101 else if okFlow n arcs f t flow then 0 else 100
structure Val (N : Nat) (arcs : List Arc) : Prop where
 hn : 1 ≤ N ∧ N ≤ 256
 hl : arcs.length ≤ 2048
 ha : ∀ a ∈ arcs, ((0 ≤ a.from_ ∧ a.from_ < N) ∧ (0 ≤ a.to ∧ a.to < N) ∧ a.from_ ≠ a.to) ∧ 0 ≤ a.cap ∧ a.cap ≤ 1073741824
theorem Val.flow {N : Nat} {arcs : List Arc} (h : Val N arcs) {flow : List Int} (hl : flow.length = arcs.length) (hp : possP arcs flow) : ∀ x ∈ flow, 0 ≤ x ∧ x ≤ 1073741824 := by
 intro x hx
 obtain ⟨i, hi, rfl⟩ := yN hx
 have h1 := hp i hi (by omega)
 have h2 := (h.ha arcs[i] (yD _)).2
 omega
structure FlInv (arcs : List Arc) (f t : Int) (flow : List Int) (k : Nat) : Prop where
 h : ∀ j : Nat, j < k → ((j : Int) ≠ f → (j : Int) ≠ t → valTo arcs j flow arcs.length = 0) ∧ ((j : Int) = f → 0 ≤ valTo arcs j flow arcs.length)
theorem ok40 (N : Nat) (arcs : List Arc) (f t : Int) (flow : List Int) (hV : Val N arcs) : Ok 40 [net N arcs, .i f, .i t, li flow] (Is (.i (checkI N arcs f t flow))) := by
 refine ok_of lw40 (by simp) ?_
 unfold c40
 simp -implicitDefEqProofs only [rX,↓rY,ofConst,cells?,↓reduceIte,Nat.reduceEqDiff,Nat.reduceAdd,reduceCtorEq,freshP,cxN,args0,net,li]
 refine call_is (ok58 N arcs f t) ?_ rfl ?_
 ·simp [net, li, lendsOk, lendOk, lends, lend, wkL, wk, wkB, wkR, pos]
 simp -implicitDefEqProofs only [rX,↓rY,ofConst,↓reduceIte,Nat.reduceEqDiff,reduceCtorEq,resP,tupV,wfV]
 simp only [br, decide_eq_true_eq, decide_eq_false_iff_not, bne_iff_ne, bne_eq_false_iff_eq]
 refine ⟨fun h => ?_, fun he hm1 hm2 => ⟨fun h => ?_, fun hl _ => ?_⟩⟩
 ·rw [checkI, if_pos]
  simp at h; simp [h]
 ·rw [checkI, if_pos]
  intro h2; omega
 simp at he
 have hl' : flow.length = arcs.length := by omega
 refine loopP_intro (fun k : Nat => ⟨[(28, .i k), (27, .i flow.length), (26, .ro 1 (flow.map encI)), (4, .ptr 0 0 0), (3, .ro 1 (flow.map encI)), (2, .i t), (1, .i f)], [.var [.i N, .ro 4 (arcs.map Arc.enc)]], 0⟩) (fun k => k ≤ arcs.length ∧ ∀ j (h1 : j < flow.length) (h2 : j < arcs.length), j < k → 0 ≤ flow[j] ∧ flow[j] ≤ arcs[j].cap) (fun k => arcs.length - k) 0 (by simp) ?_ ?_
 ·simp -implicitDefEqProofs only [rX,↓reduceIte,Nat.reduceEqDiff,reduceCtorEq,leE,leH,leB,leV,leVs,keepP,liveP,wfE,wfB,wfV,wfL,leVs,leV,yC]
 rintro k ⟨hk, hv⟩
 simp -implicitDefEqProofs only [rX,↓rY,rZ,ofConst,↓reduceIte,Nat.reduceEqDiff,Nat.reduceAdd,resP,tupV,leE,leH,leB,leV,leVs,keepP,liveP,wfE,wfB,wfV,wfL]
 simp only [br, decide_eq_true_eq, decide_eq_false_iff_not]
 refine ⟨fun h2 => ⟨⟨by omega, h2⟩, by omega, fun q => ?_, fun q1 => ⟨⟨by omega, by omega⟩, by omega, fun q => ?_, fun q2 => ⟨?_, k + 1, ⟨⟨by omega, ?_⟩, by omega⟩, by simp⟩⟩⟩, fun h2 => ?_⟩
 ·rw [checkI, if_neg (by simp [he, hl']), if_pos]
  intro hp
  have := hp k (by omega) (by omega)
  omega
 ·rw [checkI, if_neg (by simp [he, hl']), if_pos]
  intro hp
  have := hp k (by omega) (by omega)
  omega
 ·simp only [lo, hi, maxLen] at *; omega
 ·intro j h3 h4 h5
  by_cases h6 : j = k
  ·subst h6; omega
  ·exact hv j h3 h4 (by omega)
 have hp : possP arcs flow := fun i h3 h4 => hv i h3 h4 (by omega)
 have hf := hV.flow hl' hp
 have hN := hV.hn
 have hL := hV.hl
 refine call_isA [net N arcs, li flow] (.sl 1 0 N) (.sl 2 0 N) [.dead, .arr 1 (rowF N (fun j => valTo arcs j flow arcs.length))] [.dead, .arr 1 (rowF N (fun j => valTo arcs j flow arcs.length))] (ok60 N arcs flow hl' (by omega) (by omega) hf (fun a ha => (hV.ha a ha).1)) ?_ rfl rfl ?_
 ·simp [net, li, lendsOk, lendOk, lends, lend, wkL, wk, wkB, wkR, pos]
 simp -implicitDefEqProofs only [rX,↓rY,ofConst,↓reduceIte]
 intro _
 refine loopP_intro (fun k : Nat => ⟨[(50, .i k), (49, .i N), (48, .sl 2 0 N), (2, .i t), (1, .i f)], [.dead, .dead, .arr 1 (rowF N (fun j => valTo arcs j flow arcs.length))], 0⟩) (fun k => k ≤ N ∧ FlInv arcs f t flow k) (fun k => N - k) 0 ⟨by omega, ⟨by simp⟩⟩ ?_ ?_
 ·simp -implicitDefEqProofs only [rX,↓reduceIte,Nat.reduceEqDiff,leE,leH,leB,keepP,liveP,wfE,wfB,wfV,yC]
 rintro k ⟨hk, hv⟩
 simp -implicitDefEqProofs only [rX,↓rY,rZ,ofConst,↓reduceIte,Nat.reduceEqDiff,arrSz,Nat.reduceAdd,resP,tupV,leE,leH,leB,keepP,liveP,wfE,wfB,wfV,rowF_len,rowF_get]
 simp only [br, decide_eq_true_eq, decide_eq_false_iff_not, bne_iff_ne, bne_eq_false_iff_eq, beq_iff_eq, beq_eq_false_iff_ne]
 have bad : ¬ okFlow N arcs f t flow → 100 = checkI N arcs f t flow := by
  intro h
  rw [checkI, if_neg (by simp [he, hl']), if_neg (by simpa using hp), if_neg h]
 have good : okFlow N arcs f t flow → 0 = checkI N arcs f t flow := by
  intro h
  rw [checkI, if_neg (by simp [he, hl']), if_neg (by simpa using hp), if_pos h]
 have hef : (k : Int) = f → valTo arcs k flow arcs.length = valTo arcs f flow arcs.length := by rintro rfl; rfl
 have hnx : (k < N) → ((k : Int) ≠ f → (k : Int) ≠ t → valTo arcs k flow arcs.length = 0) ∧ ((k : Int) = f → 0 ≤ valTo arcs k flow arcs.length) →
   FlInv arcs f t flow (k + 1) := by
  intro h3 h4
  refine ⟨fun j hj => ?_⟩
  by_cases h6 : j = k
  ·subst h6; exact h4
  ·exact hv.h j (by omega)
 have bad1 : (0 ≤ (k : Int) ∧ (k : Int) < N) → (k : Int) ≠ f → (k : Int) ≠ t → valTo arcs k flow arcs.length ≠ 0 → 100 = checkI N arcs f t flow := fun h1 h2 h3 h4 => bad fun ho => h4 (ho.1 k h1.1 h1.2 h2 h3)
 have bad2 : (k : Int) = f → valTo arcs k flow arcs.length < 0 → 100 = checkI N arcs f t flow := fun h1 h2 => bad fun ho => by
  have := ho.2
  rw [hef h1] at h2
  omega
 refine ⟨fun h3 => ?_, fun h3 => ?_⟩
 ·have h4 : k < N := by omega
  have hnx := hnx h4
  simp only [lo, hi, maxLen] at *
  refine ⟨⟨by omega, by omega⟩, by simpa [rowF_len] using h4, ?_⟩
  repeat' (first | (refine ⟨(k+1 : _), ?_⟩) | (refine ⟨by omega, ?_⟩) | (refine And.intro ?_ ?_) | (refine (fun _ => ?_)))
  all_goals first | omega | exact bad1 ⟨by omega, h3⟩ ‹_› ‹_› ‹_› | exact bad2 ‹_› ‹_› | (exact hnx ⟨fun _ _ => by first | assumption | omega, fun _ => by omega⟩)
 ·apply good
  have hend : (0 ≤ f ∧ f < N) := by simp [endsB] at he; omega
  have hk2 : k = N := by omega
  refine ⟨fun j h1 h2 h4 h5 => ?_, ?_⟩
  ·have := (hv.h j.toNat (by omega)).1
   rw [vH h1] at this
   exact this h4 h5
  ·have := (hv.h f.toNat (by omega)).2
   rw [vH hend.1] at this
   exact this rfl
end Go.Fx.P.F
namespace Go.Fx.P.F
open Go Go.Fx Go.Proofs
set_option maxRecDepth 20000
structure FlInw (arcs : List Arc) (f t : Int) (flow : List Int) (k : Nat) : Prop where
 h : ∀ j : Nat, j < k → ((j : Int) ≠ f → (j : Int) ≠ t → valTo arcs j flow arcs.length = 0)
theorem ok78 (N : Nat) (arcs : List Arc) (f t : Int) (flow : List Int) (hV : Val N arcs) : Ok 78 [net N arcs, .i f, .i t, li flow] (Is (.i (checkI N arcs f t flow))) := by
 refine ok_of lw78 (by simp) ?_
 unfold c78
 simp -implicitDefEqProofs only [rX,↓rY,ofConst,cells?,↓reduceIte,Nat.reduceEqDiff,Nat.reduceAdd,reduceCtorEq,freshP,cxN,args0,net,li]
 refine call_is (ok102 N arcs f t) ?_ rfl ?_
 ·simp [net, li, bli, lendsOk, lendOk, lends, lend, wkL, wk, wkB, wkR, pos]
 simp -implicitDefEqProofs only [rX,↓rY,ofConst,↓reduceIte,Nat.reduceEqDiff,Nat.reduceAdd,reduceCtorEq,resP,tupV,wfV]
 simp only [br, decide_eq_true_eq, decide_eq_false_iff_not, bne_iff_ne, bne_eq_false_iff_eq]
 refine ⟨fun h => ?_, fun he hm1 hm2 => ⟨fun h => ?_, fun hl => ?_⟩⟩
 ·rw [checkI, if_pos]
  simp at h; simp [h]
 ·rw [checkI, if_pos]
  intro h2; omega
 simp at he
 have hl' : flow.length = arcs.length := by omega
 refine call_is (ok103 N arcs flow) ?_ rfl ?_
 ·simp [net, li, bli, lendsOk, lendOk, lends, lend, wkL, wk, wkB, wkR, pos]
 simp -implicitDefEqProofs only [rX,ofConst,↓reduceIte,resP,tupV,wfV]
 simp only [br, Bool.not_eq_true', Bool.not_eq_false']
 refine ⟨fun h => ?_, fun h => ?_⟩
 ·rw [checkI, if_neg (by simp [he, hl']), if_pos]
  intro hp
  rw [possB_t ⟨hl', hp⟩] at h
  simp at h
 have hp : possP arcs flow := by
  apply Classical.byContradiction
  intro hp
  rw [possB_f (fun h => hp h.2)] at h
  simp at h
 have hf := hV.flow hl' hp
 have hN := hV.hn
 have hL := hV.hl
 have bad : ¬ okFlow N arcs f t flow → 100 = checkI N arcs f t flow := by
  intro h
  rw [checkI, if_neg (by simp [he, hl']), if_neg (by simpa using hp), if_neg h]
 have good : okFlow N arcs f t flow → 0 = checkI N arcs f t flow := by
  intro h
  rw [checkI, if_neg (by simp [he, hl']), if_neg (by simpa using hp), if_pos h]
 refine loopP_intro (fun k : Nat => ⟨[(10, .i k), (4, .ptr 0 0 0), (3, .ro 1 (flow.map encI)), (2, .i t), (1, .i f)], [.var [.i N, .ro 4 (arcs.map Arc.enc)]], 0⟩) (fun k => k ≤ N ∧ FlInw arcs f t flow k) (fun k => N - k) 0 ⟨by omega, ⟨by simp⟩⟩ ?_ ?_
 ·simp -implicitDefEqProofs only [rX,↓reduceIte,Nat.reduceEqDiff,reduceCtorEq,leE,leH,leB,leV,leVs,keepP,liveP,wfE,wfB,wfV,wfL,leVs,leV,yC]
 rintro k ⟨hk, hv⟩
 simp -implicitDefEqProofs only [rX,↓rY,ofConst,↓reduceIte,Nat.reduceEqDiff,Nat.reduceAdd,leE,leH,leB,leV,leVs,keepP,liveP,wfE,wfB,wfV,wfL]
 simp only [br, decide_eq_true_eq, decide_eq_false_iff_not, bne_iff_ne, bne_eq_false_iff_eq]
 have hnx : (k < N) → ((k : Int) ≠ f → (k : Int) ≠ t → valTo arcs k flow arcs.length = 0) → FlInw arcs f t flow (k + 1) := by
  intro h3 h4
  refine ⟨fun j hj => ?_⟩
  by_cases h6 : j = k
  ·subst h6; exact h4
  ·exact hv.h j (by omega)
 refine ⟨fun h3 => ?_, fun h3 => ?_⟩
 ·have h4 : k < N := by omega
  have hnx := hnx h4
  refine ⟨fun h1 => ⟨fun h2 => ?_, fun h2 => ?_⟩, fun h1 => ?_⟩
  ·refine call_is (ok79 N k arcs flow hl' (by omega) hf) ?_ rfl ?_
   ·simp [net, li, bli, lendsOk, lendOk, lends, lend, wkL, wk, wkB, wkR, pos]
   simp -implicitDefEqProofs only [rX,↓rY,ofConst,↓reduceIte,Nat.reduceEqDiff,resP,tupV,leE,leH,leB,leV,leVs,keepP,liveP,wfE,wfB,wfV,wfL]
   simp only [br, decide_eq_true_eq, decide_eq_false_iff_not, bne_iff_ne, bne_eq_false_iff_eq, lo, hi]
   refine ⟨fun h5 => bad fun ho => h5 (ho.1 k (by omega) h3 h1 h2), fun h5 => ?_⟩
   repeat' (first | (refine ⟨(k+1 : _), ?_⟩) | (refine ⟨by omega, ?_⟩) | (refine And.intro ?_ ?_) | (refine (fun _ => ?_)))
   all_goals first | omega | exact hnx fun _ _ => h5
  ·simp only [lo, hi]
   repeat' (first | (refine ⟨(k+1 : _), ?_⟩) | (refine ⟨by omega, ?_⟩) | (refine And.intro ?_ ?_) | (refine (fun _ => ?_)))
   all_goals first | omega | exact hnx fun _ h => absurd h2 h
  ·simp only [lo, hi]
   repeat' (first | (refine ⟨(k+1 : _), ?_⟩) | (refine ⟨by omega, ?_⟩) | (refine And.intro ?_ ?_) | (refine (fun _ => ?_)))
   all_goals first | omega | exact hnx fun h _ => absurd h1 h
 ·have hk2 : k = N := by omega
  refine call_is (ok79 N f arcs flow hl' (by omega) hf) ?_ rfl ?_
  ·simp [net, li, bli, lendsOk, lendOk, lends, lend, wkL, wk, wkB, wkR, pos]
  simp -implicitDefEqProofs only [rX,↓rY,ofConst,↓reduceIte,resP,tupV,wfV]
  simp only [br, decide_eq_true_eq, decide_eq_false_iff_not, bne_iff_ne, bne_eq_false_iff_eq, lo, hi]
  refine ⟨fun h5 => bad fun ho => ?_, fun h5 => good ⟨fun j h1 h2 h4 h6 => ?_, by omega⟩⟩
  ·have := ho.2
   omega
  ·have := (hv.h j.toNat (by omega))
   rw [vH h1] at this
   exact this h4 h6
end Go.Fx.P.F
namespace Go.Fx.P.F
open Go Go.Fx Go.Proofs
set_option maxRecDepth 20000
end Go.Fx.P.F
namespace Go.Fx.P.F
open Go Go.Fx Go.Proofs
set_option maxRecDepth 20000
theorem check0 {N : Nat} {arcs : List Arc} {f t : Int} {flow : List Int} (h : checkI N arcs f t flow = 0) : endsB N f t = true ∧ flow.length = arcs.length ∧ possP arcs flow := by
 unfold checkI at h
 split at h
 ·simp at h
 ·rename_i h1
  split at h
  ·simp at h
  ·rename_i h2
   exact ⟨(Classical.not_not.mp h1).1, (Classical.not_not.mp h1).2, Classical.not_not.mp h2⟩
end Go.Fx.P.F
namespace Go.Fx.P.F
open Go Go.Fx Go.Proofs
set_option maxRecDepth 20000
def restA (arcs : List Arc) (flow : List Int) : Nat → List Arc
 | 0 => []
 | k + 1 => restA arcs flow k ++ [⟨(arcs.getD k ⟨0,0,0,0⟩).from_, (arcs.getD k ⟨0,0,0,0⟩).to, (arcs.getD k ⟨0,0,0,0⟩).cap - flow.getD k 0, (arcs.getD k ⟨0,0,0,0⟩).cost⟩, ⟨(arcs.getD k ⟨0,0,0,0⟩).to, (arcs.getD k ⟨0,0,0,0⟩).from_, flow.getD k 0, IntKind.wrap .i64 (-(arcs.getD k ⟨0,0,0,0⟩).cost)⟩]
end Go.Fx.P.F
namespace Go.Fx.P.F
open Go Go.Fx Go.Proofs
def gA (R : List Arc) (i : Nat) : Arc := R.getD i ⟨0, 0, 0, 0⟩
def scanTo (R : List Arc) (k : Int) (s : List Int × List Int) : Nat → List Int × List Int
 | 0 => s
 | i + 1 => if (gA R i).from_ = k ∧ 0 < (gA R i).cap ∧ (scanTo R k s i).1.getD (gA R i).to.toNat 0 = -2 then ((scanTo R k s i).1.set (gA R i).to.toNat i, (scanTo R k s i).2 ++ [(gA R i).to]) else scanTo R k s i
def bfsTo (R : List Arc) (N : Nat) (f : Int) : Nat → List Int × List Int
 | 0 => ((yY N (-2)).set f.toNat (-1), [f])
 | h + 1 => match (bfsTo R N f h).2[h]? with
  | some k => scanTo R k (bfsTo R N f h) R.length
  | none => bfsTo R N f h
theorem getD_set {l : List Int} {i j : Nat} {x d : Int} (h : i < l.length) : (l.set i x).getD j d = if j = i then x else l.getD j d := by
 simp only [yA, List.getElem?_set]
 by_cases hij : i = j
 ·subst hij; simp [h]
 ·have : ¬ j = i := fun h => hij h.symm
  simp [hij, this]
end Go.Fx.P.F
namespace Go.Fx.P.F
open Go Go.Fx Go.Proofs
theorem nodup_le {l : List Int} (N : Nat) (hn : l.Nodup) (hr : ∀ v ∈ l, 0 ≤ v ∧ v < N) : l.length ≤ N := by
 have h1 : (l.map vP).Nodup := by
  rw [vA, vQ]
  refine List.Pairwise.imp_of_mem ?_ hn
  intro a b ha hb hab he
  have := hr a ha
  have := hr b hb
  omega
 have h2 : (l.map vP) ⊆ yP N := by
  intro x hx
  rw [yI] at hx
  obtain ⟨a, ha, rfl⟩ := hx
  have := hr a ha
  rw [yJ]; omega
 have h3 := List.Nodup.length_le_of_subset h1 h2
 simpa using h3
def srch (R : List Arc) (N : Nat) (f : Int) : List Int × List Int := bfsTo R N f N
def walk (R : List Arc) (t : List Int × List Int) : Nat → Int → List Nat
 | 0, _ => []
 | n + 1, k => if t.1.getD k.toNat 0 < 0 then [] else (t.1.getD k.toNat 0).toNat :: walk R t n (gA R (t.1.getD k.toNat 0).toNat).from_
end Go.Fx.P.F
namespace Go.Fx.P.F
open Go Go.Fx Go.Proofs
def push1 (d : Int) (fl : List Int) (i : Nat) : List Int := if i % 2 = 0 then fl.set (i / 2) (fl.getD (i / 2) 0 + d) else fl.set (i / 2) (fl.getD (i / 2) 0 - d)
def pushAll (d : Int) (fl : List Int) (p : List Nat) : List Int := p.foldl (push1 d) fl
def leastOf (R : List Arc) (p : List Nat) (m : Int) : Int := p.foldl (fun m i => min m (gA R i).cap) m
def round (arcs : List Arc) (N : Nat) (f t : Int) (fl : List Int) : Option (List Int) :=
 if (srch (restA arcs fl arcs.length) N f).1.getD t.toNat 0 = -2 then none
 else some (pushAll (leastOf (restA arcs fl arcs.length) (walk (restA arcs fl arcs.length) (srch (restA arcs fl arcs.length) N f) N t) 1073741824) fl (walk (restA arcs fl arcs.length) (srch (restA arcs fl arcs.length) N f) N t))
theorem valTo_set (arcs : List Arc) (x : Int) (fl : List Int) (q : Nat) (e : Int) (hq : q < fl.length) : ∀ k, valTo arcs x (fl.set q (fl.getD q 0 + e)) k = valTo arcs x fl k + (if q < k then (if (gA arcs q).from_ = x then e else 0) - (if (gA arcs q).to = x then e else 0) else 0)
 | 0 => by simp [valTo]
 | k + 1 => by
  have ih := valTo_set arcs x fl q e hq k
  simp only [valTo, ih, getD_set hq]
  by_cases h : k = q
  ·subst h
   simp only [if_true, Nat.lt_irrefl, if_false, Nat.lt_succ_self, gA]
   split <;> split <;> omega
  ·simp only [h, if_false]
   by_cases h2 : q < k
   ·simp only [h2, if_true, show q < k + 1 by omega]
    omega
   ·simp only [h2, if_false, show ¬ q < k + 1 by omega]
    omega
end Go.Fx.P.F
namespace Go.Fx.P.F
open Go Go.Fx Go.Proofs
end Go.Fx.P.F
namespace Go.Fx.P.F
open Go Go.Fx Go.Proofs
end Go.Fx.P.F
namespace Go.Fx.P.F
open Go Go.Fx Go.Proofs
theorem getD_nil {a : Arc} {arcs : List Arc} {q : Nat} (h : q < arcs.length) : gA arcs q = arcs[q] := by
 simp [gA, yA, yB h]
theorem poss_iff {arcs : List Arc} {fl : List Int} (hl : fl.length = arcs.length) : possP arcs fl ↔ ∀ q, q < arcs.length → 0 ≤ fl.getD q 0 ∧ fl.getD q 0 ≤ (gA arcs q).cap := by
 refine ⟨fun h q hq => ?_, fun h q h1 h2 => ?_⟩
 ·have := h q (by omega) hq
  rw [yA, yB (by omega), getD_nil (a := ⟨0,0,0,0⟩) hq]
  exact this
 ·have := h q h2
  rw [yA, yB h1, getD_nil (a := ⟨0,0,0,0⟩) h2] at this
  exact this
end Go.Fx.P.F
namespace Go.Fx.P.F
open Go Go.Fx Go.Proofs
set_option maxRecDepth 20000
theorem mapI_set {l : List Int} {i : Nat} {x : Int} : (l.map encI).set i [.v (.int .i64 x)] = (l.set i x).map encI := by
 rw [List.map_set]; rfl
theorem encB_drop (x : Bool) : vE 1 (encB x) = [] := rfl
end Go.Fx.P.F
namespace Go.Fx.P.F
open Go Go.Fx Go.Proofs
theorem app_get {α : Type} {bs l : List α} {q : Nat} : (bs ++ l)[bs.length + q]? = l[q]? := by
 rw [vN (by omega)]; congr 1; omega
theorem app_get0 {α : Type} {bs l : List α} : (bs ++ l)[bs.length]? = l[0]? := app_get (q := 0)
theorem app_set {α : Type} {bs l : List α} {q : Nat} {x : α} : (bs ++ l).set (bs.length + q) x = bs ++ l.set q x := by
 rw [uK _ _ (by omega)]; congr 2; omega
theorem app_set0 {α : Type} {bs l : List α} {x : α} : (bs ++ l).set bs.length x = bs ++ l.set 0 x := app_set (q := 0)
end Go.Fx.P.F
namespace Go.Fx.P.F
open Go Go.Fx Go.Proofs
theorem wfL_all {h : List Blk} : ∀ {cs : List V}, (∀ x ∈ cs, wfV h x) → wfL h cs
 | [], _ => trivial
 | x :: r, hx => ⟨hx x yH, wfL_all fun y hy => hx y (yM _ hy)⟩
end Go.Fx.P.F
namespace Go.Fx.P.F
open Go Go.Fx Go.Proofs
def ent1 (b : List Int) (e : Int × Nat) : Value × V × Nat := (.int .i64 e.1, V.i (b.getD e.1.toNat 0), e.2)
def ents (b ord : List Int) : List (Value × V × Nat) := ord.zipIdx.map (ent1 b)
theorem ents_wf {h : List Blk} {b ord : List Int} : wfL h ((ents b ord).map fun x => x.2.1) := by
 refine wfL_all fun x hx => ?_
 rw [yI] at hx
 obtain ⟨e, h1, rfl⟩ := hx
 unfold ents at h1
 rw [yI] at h1
 obtain ⟨e', _, rfl⟩ := h1
 trivial
end Go.Fx.P.F
namespace Go.Fx.P.F
open Go Go.Fx Go.Proofs
set_option maxRecDepth 20000
end Go.Fx.P.F
namespace Go.Fx.P.F
open Go Go.Fx Go.Proofs
set_option maxRecDepth 20000
end Go.Fx.P.F
namespace Go.Fx.P.F
open Go Go.Fx Go.Proofs
set_option maxRecDepth 20000
end Go.Fx.P.F
namespace Go.Fx.P.F
open Go Go.Fx Go.Proofs
set_option maxRecDepth 20000
end Go.Fx.P.F
namespace Go.Fx.P.F
open Go Go.Fx Go.Proofs
set_option maxRecDepth 20000
theorem caps_in {N : Nat} {arcs : List Arc} (hV : Val N arcs) : ∀ q, 0 ≤ (gA arcs q).cap ∧ (gA arcs q).cap ≤ 1073741824 := by
 intro q
 by_cases h : q < arcs.length
 ·rw [getD_nil (a := ⟨0,0,0,0⟩) h]
  exact (hV.ha arcs[q] (yD h)).2
 ·simp [gA, yA, uV (show arcs.length ≤ q by omega)]
end Go.Fx.P.F
namespace Go.Fx.P.F
open Go Go.Fx Go.Proofs
set_option maxRecDepth 20000
def left (n : Nat) (seen : List Nat) : Nat := ((yP n).filter fun j => !seen.contains j).length
end Go.Fx.P.F
namespace Go.Fx.P.F
open Go Go.Fx Go.Proofs
set_option maxRecDepth 20000
end Go.Fx.P.F
namespace Go.Fx.P.F
open Go Go.Fx Go.Proofs
set_option maxRecDepth 20000
end Go.Fx.P.F
namespace Go.Fx.P.F
open Go Go.Fx Go.Proofs
set_option maxRecDepth 20000
end Go.Fx.P.F
namespace Go.Fx.P.F
open Go Go.Fx Go.Proofs
set_option maxRecDepth 20000
theorem take_enc {l : List Int} {n : Nat} (h : l.length = n) : yE n (l.map encI) = l.map encI := yL (by simp [h])
end Go.Fx.P.F
namespace Go.Fx.P.F
open Go Go.Fx Go.Proofs
def arcIn (arcs : List Arc) (cut : List Bool) (fl : List Int) (k : Nat) : Int :=
 (if cut.getD (gA arcs k).from_.toNat false = true then fl.getD k 0 else 0) - (if cut.getD (gA arcs k).to.toNat false = true then fl.getD k 0 else 0)
def sumC (arcs : List Arc) (cut : List Bool) (fl : List Int) : Nat → Int
 | 0 => 0
 | k + 1 => sumC arcs cut fl k + arcIn arcs cut fl k
theorem val_in {N : Nat} {arcs : List Arc} (hV : Val N arcs) {k : Nat} (hk : k < arcs.length) : (0 ≤ (gA arcs k).from_ ∧ (gA arcs k).from_ < N) ∧ (0 ≤ (gA arcs k).to ∧ (gA arcs k).to < N) := by
 rw [getD_nil (a := ⟨0,0,0,0⟩) hk]
 have := hV.ha arcs[k] (yD hk)
 exact ⟨this.1.1, this.1.2.1⟩
end Go.Fx.P.F
namespace Go.Fx.P.F
open Go Go.Fx Go.Proofs
def lowR (rest : List Int) (w : List Nat) (m : Int) : Int := w.foldl (fun m i => min m (rest.getD i 0)) m
def tkN (rest : List Int) (w : List Nat) : Int := lowR rest w (rest.getD (w.getD 0 0) 0)
def tk1 (d : Int) (rest : List Int) (i : Nat) : List Int := rest.set i (rest.getD i 0 - d)
def tkAll (d : Int) (rest : List Int) (w : List Nat) : List Int := w.foldl (tk1 d) rest
def tkR (rest : List Int) (w : List Nat) : List Int := tkAll (tkN rest w) rest w
theorem tkAll_len {d : Int} : ∀ {w : List Nat} {rest : List Int}, (tkAll d rest w).length = rest.length
 | [], _ => rfl
 | i :: w, rest => by
  show (tkAll d (tk1 d rest i) w).length = _
  rw [tkAll_len]; simp [tk1]
theorem tkR_len {rest : List Int} {w : List Nat} : (tkR rest w).length = rest.length := tkAll_len
theorem tkAll_get {d : Int} : ∀ {w : List Nat} {rest : List Int}, w.Nodup → (∀ i ∈ w, i < rest.length) → ∀ q, (tkAll d rest w).getD q 0 = rest.getD q 0 - (if q ∈ w then d else 0)
 | [], _, _, _, q => by simp [tkAll]
 | i :: w, rest, hn, hl, q => by
  rw [uL] at hn
  show (tkAll d (tk1 d rest i) w).getD q 0 = _
  have hi := hl i yH
  rw [tkAll_get hn.2 (fun j hj => by simp only [tk1, List.length_set]; exact hl j (yM _ hj)), tk1, getD_set hi]
  by_cases e : q = i
  ·subst e
   rw [if_pos rfl, if_neg hn.1, if_pos yH]; omega
  ·rw [if_neg e]
   by_cases e2 : q ∈ w
   ·rw [if_pos e2, if_pos (yM _ e2)]
   ·rw [if_neg e2, if_neg (by rw [uH]; exact fun h => h.elim e e2)]
theorem lowR_le (rest : List Int) : ∀ (w : List Nat) (m : Int), lowR rest w m ≤ m ∧ ∀ i ∈ w, lowR rest w m ≤ rest.getD i 0
 | [], m => ⟨uE _, by simp⟩
 | i :: w, m => by
  have h := lowR_le rest w (min m (rest.getD i 0))
  have e : lowR rest (i :: w) m = lowR rest w (min m (rest.getD i 0)) := rfl
  rw [e]
  refine ⟨by omega, fun j hj => ?_⟩
  rw [uH] at hj
  rcases hj with rfl | hj
  ·omega
  ·exact h.2 j hj
theorem lowR_is (rest : List Int) : ∀ (w : List Nat) (m : Int), lowR rest w m = m ∨ ∃ i ∈ w, lowR rest w m = rest.getD i 0
 | [], m => .inl rfl
 | i :: w, m => by
  have e : lowR rest (i :: w) m = lowR rest w (min m (rest.getD i 0)) := rfl
  rw [e]
  rcases lowR_is rest w (min m (rest.getD i 0)) with h | ⟨j, hj, h⟩
  ·rw [h]
   by_cases hm : m ≤ rest.getD i 0
   ·left; omega
   ·right; exact ⟨i, yH, by omega⟩
  ·right; exact ⟨j, yM _ hj, h⟩
theorem tkN_is {rest : List Int} {w : List Nat} (hw : w ≠ []) : (∀ i ∈ w, tkN rest w ≤ rest.getD i 0) ∧ ∃ i ∈ w, tkN rest w = rest.getD i 0 := by
 refine ⟨(lowR_le rest w _).2, ?_⟩
 rcases lowR_is rest w (rest.getD (w.getD 0 0) 0) with h | h
 ·cases w with
  | nil => exact absurd rfl hw
  | cons i w => exact ⟨i, yH, h⟩
 ·exact h
def cnt (rest : List Int) : Nat → Nat
 | 0 => 0
 | k + 1 => cnt rest k + (if 0 < rest.getD k 0 then 1 else 0)
theorem cnt_le {a b : List Int} (h : ∀ q, a.getD q 0 ≤ b.getD q 0) : ∀ n, cnt a n ≤ cnt b n
 | 0 => yG _
 | n + 1 => by
  have := cnt_le h n
  have := h n
  simp only [cnt]
  split <;> split <;> omega
theorem cnt_lt {a b : List Int} (h : ∀ q, a.getD q 0 ≤ b.getD q 0) {j : Nat} (h1 : a.getD j 0 ≤ 0) (h2 : 0 < b.getD j 0) : ∀ n, j < n → cnt a n < cnt b n
 | 0, hj => by omega
 | n + 1, hj => by
  have hq := h n
  simp only [cnt]
  by_cases e : j = n
  ·subst e
   have := cnt_le h j
   rw [if_neg (by omega), if_pos h2]; omega
  ·have := cnt_lt h h1 h2 n (by omega)
   split <;> split <;> omega
def isW (arcs : List Arc) : Int → List Nat → Int → Prop
 | a, [], b => a = b
 | a, i :: w, b => (gA arcs i).from_ = a ∧ isW arcs (gA arcs i).to w b
theorem isW_snoc {arcs : List Arc} {i : Nat} : ∀ {w : List Nat} {a b : Int}, isW arcs a w b → (gA arcs i).from_ = b → isW arcs a (w ++ [i]) (gA arcs i).to
 | [], a, b, h, hi => ⟨hi.trans h.symm, rfl⟩
 | j :: w, a, b, h, hi => ⟨h.1, isW_snoc h.2 hi⟩
theorem isW_drop {arcs : List Arc} : ∀ {w : List Nat} {a b : Int} {k : Nat}, isW arcs a w b → (hk : k < w.length) → isW arcs (gA arcs w[k]).from_ (w.drop k) b
 | [], _, _, k, _, hk => by simp at hk
 | j :: w, a, b, 0, h, _ => ⟨rfl, h.2⟩
 | j :: w, a, b, k + 1, h, hk => by
  have := isW_drop (k := k) h.2 (by simpa using hk)
  simpa using this
theorem valTo_tkAll (arcs : List Arc) (x d : Int) : ∀ (w : List Nat) (rest : List Int) (a b : Int), isW arcs a w b → (∀ i ∈ w, i < rest.length) → rest.length = arcs.length → valTo arcs x (tkAll d rest w) arcs.length = valTo arcs x rest arcs.length - (if a = x then d else 0) + (if b = x then d else 0)
 | [], rest, a, b, h, _, _ => by
  have : a = b := h
  subst this
  show valTo arcs x rest arcs.length = _
  omega
 | i :: w, rest, a, b, h, hl, hr => by
  have hi := hl i yH
  have ih := valTo_tkAll arcs x d w (tk1 d rest i) (gA arcs i).to b h.2 (fun j hj => by simp only [tk1, List.length_set]; exact hl j (yM _ hj)) (by simp [tk1, hr])
  show valTo arcs x (tkAll d (tk1 d rest i) w) arcs.length = _
  rw [ih]
  have hs : tk1 d rest i = rest.set i (rest.getD i 0 + (-d)) := by simp only [tk1]; congr 1
  rw [hs, valTo_set arcs x rest i (-d) hi, if_pos (by omega), h.1]
  split <;> split <;> split <;> omega
def firstI (arcs : List Arc) (rest : List Int) (at_ : Int) : Option Nat := (yP arcs.length).find? fun i => decide ((gA arcs i).from_ = at_) && decide (0 < rest.getD i 0)
def seenI (arcs : List Arc) (way : List Nat) (at_ : Int) : Option Nat := way.findIdx? fun i => decide ((gA arcs i).from_ = at_)
def att (arcs : List Arc) (t : Int) : Nat → List Int → List Nat → Int → List Int × Option (List Nat)
 | 0, rest, _, _ => (rest, none)
 | n + 1, rest, way, at_ => if at_ = t then (rest, some way) else match firstI arcs rest at_ with
  | none => (rest, some [])
  | some i => match seenI arcs (way ++ [i]) (gA arcs i).to with
   | some k => (tkR rest ((way ++ [i]).drop k), none)
   | none => att arcs t n rest (way ++ [i]) (gA arcs i).to
structure Fv (N : Nat) (arcs : List Arc) (f t : Int) (rest : List Int) : Prop where
 len : rest.length = arcs.length
 rng : ∀ q, 0 ≤ rest.getD q 0 ∧ rest.getD q 0 ≤ 1073741824
 con : ∀ j : Int, 0 ≤ j → j < N → j ≠ f → j ≠ t → valTo arcs j rest arcs.length = 0
structure Wv (N : Nat) (arcs : List Arc) (f : Int) (rest : List Int) (way : List Nat) (at_ : Int) : Prop where
 walk : isW arcs f way at_
 pos : ∀ i ∈ way, i < arcs.length ∧ 0 < rest.getD i 0
 nod : (way.map fun i => (gA arcs i).from_).Nodup
 new : at_ ∉ way.map fun i => (gA arcs i).from_
 rng : 0 ≤ at_ ∧ at_ < N
theorem out_le {arcs : List Arc} {rest : List Int} {v : Int} (hr : ∀ q, 0 ≤ rest.getD q 0) : ∀ n, (∀ i, i < n → (gA arcs i).from_ = v → rest.getD i 0 ≤ 0) → valTo arcs v rest n ≤ 0
 | 0, _ => uE _
 | n + 1, h => by
  have ih := out_le hr n fun i hi => h i (by omega)
  have h1 := hr n
  have h2 := h n (by omega)
  have e : valTo arcs v rest (n + 1) = valTo arcs v rest n + (if (gA arcs n).from_ = v then rest.getD n 0 else 0) - (if (gA arcs n).to = v then rest.getD n 0 else 0) := rfl
  rw [e]
  by_cases c : (gA arcs n).from_ = v
  ·have := h2 c
   rw [if_pos c]; split <;> omega
  ·rw [if_neg c]; split <;> omega
theorem out_lt {arcs : List Arc} {rest : List Int} {v : Int} (hr : ∀ q, 0 ≤ rest.getD q 0) {j : Nat} (hj : (gA arcs j).to = v) (hp : 0 < rest.getD j 0) : ∀ n, j < n → (∀ i, i < n → (gA arcs i).from_ = v → rest.getD i 0 ≤ 0) → valTo arcs v rest n < 0
 | 0, h, _ => by omega
 | n + 1, hn, h => by
  have h1 := hr n
  have h2 := h n (by omega)
  have e : valTo arcs v rest (n + 1) = valTo arcs v rest n + (if (gA arcs n).from_ = v then rest.getD n 0 else 0) - (if (gA arcs n).to = v then rest.getD n 0 else 0) := rfl
  rw [e]
  by_cases ej : j = n
  ·subst ej
   have ih := out_le hr j fun i hi => h i (by omega)
   rw [if_pos hj]
   by_cases c : (gA arcs j).from_ = v
   ·have := h2 c; omega
   ·rw [if_neg c]; omega
  ·have ih := out_lt hr hj hp n (by omega) fun i hi => h i (by omega)
   by_cases c : (gA arcs n).from_ = v
   ·have := h2 c
    rw [if_pos c]; split <;> omega
   ·rw [if_neg c]; split <;> omega
theorem first_ex {N : Nat} {arcs : List Arc} {f t : Int} {rest : List Int} {way : List Nat} {at_ : Int} (hF : Fv N arcs f t rest) (hv : 0 < valTo arcs f rest arcs.length) (hW : Wv N arcs f rest way at_) (hat : at_ ≠ t) : ∃ i, firstI arcs rest at_ = some i := by
 cases hfi : firstI arcs rest at_ with
 | some i => exact ⟨i, rfl⟩
 | none =>
  unfold firstI at hfi
  rw [List.find?_eq_none] at hfi
  have hno : ∀ i, i < arcs.length → (gA arcs i).from_ = at_ → rest.getD i 0 ≤ 0 := by
   intro i hi hf
   have := hfi i (yJ.2 hi)
   simp [hf] at this
   have h2 : rest.getD i 0 = rest[i]?.getD 0 := yA
   omega
  exfalso
  by_cases he : way = []
  ·have h1 : f = at_ := by have := hW.walk; rw [he] at this; exact this
   have := out_le (fun q => (hF.rng q).1) arcs.length hno
   rw [← h1] at this; omega
  ·have hlast : ∃ j ∈ way, (gA arcs j).to = at_ := by
    have : ∀ (w : List Nat) (a : Int), w ≠ [] → isW arcs a w at_ → ∃ j ∈ w, (gA arcs j).to = at_ := by
     intro w
     induction w with
     | nil => intro a h; exact absurd rfl h
     | cons j w ih =>
      intro a _ h
      cases w with
      | nil => exact ⟨j, yH, h.2⟩
      | cons k w =>
       obtain ⟨q, h1, h2⟩ := ih (gA arcs j).to (by simp) h.2
       exact ⟨q, yM _ h1, h2⟩
    exact this way f he hW.walk
   obtain ⟨j, hj, hjt⟩ := hlast
   have hp := hW.pos j hj
   have hlt := out_lt (fun q => (hF.rng q).1) hjt hp.2 arcs.length hp.1 hno
   have haf : at_ ≠ f := by
    intro e
    apply hW.new
    cases way with
    | nil => exact absurd rfl he
    | cons k w => rw [e, ← hW.walk.1]; exact uW (f := fun i => (gA arcs i).from_) yH
   have := hF.con at_ hW.rng.1 hW.rng.2 haf hat
   omega
theorem first_is {arcs : List Arc} {rest : List Int} {at_ : Int} {i : Nat} (h : firstI arcs rest at_ = some i) : i < arcs.length ∧ (gA arcs i).from_ = at_ ∧ 0 < rest.getD i 0 := by
 unfold firstI at h
 have h1 := List.find?_some h
 have h2 := uX h
 simp only [vL, decide_eq_true_eq] at h1
 exact ⟨yJ.1 h2, h1⟩
end Go.Fx.P.F
namespace Go.Fx.P.F
open Go Go.Fx Go.Proofs
theorem seen_is {arcs : List Arc} {way : List Nat} {at_ : Int} {k : Nat} (h : seenI arcs way at_ = some k) : ∃ hk : k < way.length, (gA arcs way[k]).from_ = at_ ∧ ∀ j (hj : j < way.length), j < k → (gA arcs way[j]).from_ ≠ at_ := by
 unfold seenI at h
 rw [vR] at h
 obtain ⟨hk, h1, h2⟩ := h
 refine ⟨hk, by simpa using h1, fun j hj hlt => ?_⟩
 have := h2 j hlt
 simpa using this
theorem seen_no {arcs : List Arc} {way : List Nat} {at_ : Int} (h : seenI arcs way at_ = none) : at_ ∉ way.map fun i => (gA arcs i).from_ := by
 unfold seenI at h
 rw [vS] at h
 intro hm
 rw [yI] at hm
 obtain ⟨i, hi, he⟩ := hm
 have := h i hi
 simp [he] at this
theorem nodup_of_map {α β : Type} {g : α → β} : ∀ {l : List α}, (l.map g).Nodup → l.Nodup
 | [], _ => List.nodup_nil
 | x :: r, h => by
  rw [vC, uL] at h
  rw [uL]
  exact ⟨fun hx => h.1 (uW hx), nodup_of_map h.2⟩
section
variable {N : Nat} {arcs : List Arc} {f t : Int}
theorem Wv.begin (hf : 0 ≤ f ∧ f < N) (rest : List Int) : Wv N arcs f rest [] f := ⟨rfl, by simp, by simp, by simp, hf⟩
theorem Wv.len {rest : List Int} {way : List Nat} {at_ : Int} (hV : Val N arcs) (h : Wv N arcs f rest way at_) : way.length ≤ N := by
 have := nodup_le N h.nod (by
  intro v hv
  rw [yI] at hv
  obtain ⟨i, hi, rfl⟩ := hv
  exact (val_in hV (h.pos i hi).1).1)
 simpa using this
theorem Wv.half {rest : List Int} {way : List Nat} {at_ : Int} {i : Nat} (h : Wv N arcs f rest way at_) (hi : firstI arcs rest at_ = some i) : isW arcs f (way ++ [i]) (gA arcs i).to ∧ (∀ j ∈ way ++ [i], j < arcs.length ∧ 0 < rest.getD j 0) ∧ ((way ++ [i]).map fun i => (gA arcs i).from_).Nodup := by
 have h1 := first_is hi
 refine ⟨isW_snoc h.walk h1.2.1, fun j hj => ?_, ?_⟩
 ·rw [uD, vF] at hj
  rcases hj with hj | rfl
  ·exact h.pos j hj
  ·exact ⟨h1.1, h1.2.2⟩
 ·rw [yF, List.nodup_append]
  refine ⟨h.nod, by simp, fun a ha b hb => ?_⟩
  rw [vC, vJ, vF] at hb
  rw [hb, h1.2.1]
  intro e
  rw [e] at ha
  exact h.new ha
theorem Wv.more {rest : List Int} {way : List Nat} {at_ : Int} {i : Nat} (hV : Val N arcs) (h : Wv N arcs f rest way at_) (hi : firstI arcs rest at_ = some i) (hs : seenI arcs (way ++ [i]) (gA arcs i).to = none) : Wv N arcs f rest (way ++ [i]) (gA arcs i).to := by
 obtain ⟨h1, h2, h3⟩ := h.half hi
 exact ⟨h1, h2, h3, seen_no hs, (val_in hV (first_is hi).1).2⟩
theorem take_ok {rest : List Int} (hF : Fv N arcs f t rest) {w : List Nat} {a b : Int} (hw : isW arcs a w b) (hne : w ≠ []) (hnd : w.Nodup) (hp : ∀ j ∈ w, j < arcs.length ∧ 0 < rest.getD j 0) :
  0 < tkN rest w ∧ (tkR rest w).length = arcs.length ∧ (∀ q, 0 ≤ (tkR rest w).getD q 0 ∧ (tkR rest w).getD q 0 ≤ 1073741824) ∧ cnt (tkR rest w) arcs.length < cnt rest arcs.length ∧
   ∀ x, valTo arcs x (tkR rest w) arcs.length = valTo arcs x rest arcs.length - (if a = x then tkN rest w else 0) + (if b = x then tkN rest w else 0) := by
 obtain ⟨h1, j, hj, h2⟩ := tkN_is (rest := rest) hne
 have h3 := hp j hj
 have hget := tkAll_get (d := tkN rest w) hnd (rest := rest) (fun i hi => by rw [hF.len]; exact (hp i hi).1)
 have hget2 : ∀ q, (tkR rest w).getD q 0 = rest.getD q 0 - (if q ∈ w then tkN rest w else 0) := hget
 have h0 : 0 < tkN rest w := by rw [h2]; exact h3.2
 refine ⟨h0, by rw [tkR_len, hF.len], fun q => ?_, ?_, fun x => valTo_tkAll arcs x _ w rest a b hw (fun i hi => by rw [hF.len]; exact (hp i hi).1) hF.len⟩
 ·have hr := hF.rng q
  rw [hget2]
  by_cases hq : q ∈ w
  ·have := h1 q hq
   rw [if_pos hq]; omega
  ·rw [if_neg hq]; omega
 ·refine cnt_lt (fun q => ?_) (j := j) ?_ h3.2 arcs.length h3.1
  ·rw [hget2]; split <;> omega
  ·rw [hget2, if_pos hj]; omega
theorem take_Fv {rest : List Int} (hF : Fv N arcs f t rest) {w : List Nat} {a b : Int} (hw : isW arcs a w b) (hne : w ≠ []) (hnd : w.Nodup) (hp : ∀ j ∈ w, j < arcs.length ∧ 0 < rest.getD j 0) (hab : a = b ∨ (a = f ∧ b = t)) : Fv N arcs f t (tkR rest w) := by
 obtain ⟨_, h1, h2, _, h3⟩ := take_ok hF hw hne hnd hp
 refine ⟨h1, h2, fun j q1 q2 q3 q4 => ?_⟩
 rw [h3, hF.con j q1 q2 q3 q4]
 rcases hab with rfl | ⟨rfl, rfl⟩
 ·split <;> omega
 ·rw [if_neg (fun e => q3 e.symm), if_neg (fun e => q4 e.symm)]; rfl
def AttOk (N : Nat) (arcs : List Arc) (f t : Int) (rest : List Int) (r : List Int × Option (List Nat)) : Prop :=
 (∃ w, r = (rest, some w) ∧ w ≠ [] ∧ isW arcs f w t ∧ w.Nodup ∧ ∀ j ∈ w, j < arcs.length ∧ 0 < rest.getD j 0) ∨
 (∃ rest', r = (rest', none) ∧ Fv N arcs f t rest' ∧ valTo arcs f rest' arcs.length = valTo arcs f rest arcs.length ∧ cnt rest' arcs.length < cnt rest arcs.length)
theorem att_ok (hV : Val N arcs) (hft : f ≠ t) {rest : List Int} (hF : Fv N arcs f t rest) (hv : 0 < valTo arcs f rest arcs.length) : ∀ (n : Nat) (way : List Nat) (at_ : Int), Wv N arcs f rest way at_ → N + 1 = way.length + n → AttOk N arcs f t rest (att arcs t n rest way at_)
 | 0, way, at_, hW, hn => by
  have := hW.len hV
  omega
 | n + 1, way, at_, hW, hn => by
  unfold att
  by_cases hat : at_ = t
  ·rw [if_pos hat]
   refine .inl ⟨way, rfl, ?_, hat ▸ hW.walk, nodup_of_map hW.nod, hW.pos⟩
   intro he
   have := hW.walk
   rw [he] at this
   exact hft (this.trans hat)
  ·rw [if_neg hat]
   obtain ⟨i, hi⟩ := first_ex hF hv hW hat
   rw [hi]
   simp only
   cases hs : seenI arcs (way ++ [i]) (gA arcs i).to with
   | none => exact att_ok hV hft hF hv n (way ++ [i]) _ (hW.more hV hi hs) (by simp; omega)
   | some k =>
    obtain ⟨hk, h1, _⟩ := seen_is hs
    obtain ⟨g1, g2, g3⟩ := hW.half hi
    have hd := isW_drop g1 hk
    rw [h1] at hd
    have hne : (way ++ [i]).drop k ≠ [] := by
     intro e
     have := congrArg vT e
     rw [yX, yT] at this
     omega
    have hnd : ((way ++ [i]).drop k).Nodup := vG (vU _ _) (nodup_of_map g3)
    have hp : ∀ j ∈ (way ++ [i]).drop k, j < arcs.length ∧ 0 < rest.getD j 0 := fun j hj => g2 j (vV hj)
    have hto := take_ok hF hd hne hnd hp
    refine .inr ⟨_, rfl, take_Fv hF hd hne hnd hp (.inl rfl), ?_, hto.2.2.2.1⟩
    rw [hto.2.2.2.2]
    split <;> omega
inductive PW (N : Nat) (arcs : List Arc) (f t : Int) : List Int → List Int → List Nat → Prop where
 | way {rest : List Int} {w : List Nat} (h : att arcs t (N + 1) rest [] f = (rest, some w)) : PW N arcs f t rest rest w
 | circ {rest rest1 rest' : List Int} {w : List Nat} (h : att arcs t (N + 1) rest [] f = (rest1, none)) (h2 : PW N arcs f t rest1 rest' w) : PW N arcs f t rest rest' w
inductive PR (N : Nat) (arcs : List Arc) (f t : Int) : List Int → List (List Nat) → List Int → Prop where
 | stop {rest : List Int} (h : valTo arcs f rest arcs.length ≤ 0) : PR N arcs f t rest [] []
 | step {rest rest1 : List Int} {w : List Nat} {ws : List (List Nat)} {ns : List Int} (h : 0 < valTo arcs f rest arcs.length) (h2 : PW N arcs f t rest rest1 w) (h3 : PR N arcs f t (tkR rest1 w) ws ns) : PR N arcs f t rest (w :: ws) (tkN rest1 w :: ns)
theorem PW.ok (hV : Val N arcs) (hf : 0 ≤ f ∧ f < N) (hft : f ≠ t) : ∀ (c : Nat) (rest : List Int), cnt rest arcs.length ≤ c → Fv N arcs f t rest → 0 < valTo arcs f rest arcs.length →
  ∃ rest1 w, PW N arcs f t rest rest1 w ∧ Fv N arcs f t rest1 ∧ valTo arcs f rest1 arcs.length = valTo arcs f rest arcs.length ∧ cnt rest1 arcs.length ≤ cnt rest arcs.length ∧ w ≠ [] ∧ isW arcs f w t ∧ w.Nodup ∧ ∀ j ∈ w, j < arcs.length ∧ 0 < rest1.getD j 0
 | c, rest, hc, hF, hv => by
  rcases att_ok hV hft hF hv (N + 1) [] f (Wv.begin hf rest) (by simp) with ⟨w, h1, h2, h3, h4, h5⟩ | ⟨rest', h1, h2, h3, h4⟩
  ·exact ⟨rest, w, .way h1, hF, rfl, yG _, h2, h3, h4, h5⟩
  ·cases c with
   | zero => omega
   | succ c =>
    obtain ⟨rest1, w, g1, g2, g3, g4, g5⟩ := PW.ok hV hf hft c rest' (by omega) h2 (by omega)
    exact ⟨rest1, w, .circ h1 g1, g2, g3.trans h3, by omega, g5⟩
theorem PR.ex (hV : Val N arcs) (hf : 0 ≤ f ∧ f < N) (hft : f ≠ t) : ∀ (c : Nat) (rest : List Int), cnt rest arcs.length ≤ c → Fv N arcs f t rest → ∃ ws ns, PR N arcs f t rest ws ns
 | c, rest, hc, hF => by
  by_cases hv : 0 < valTo arcs f rest arcs.length
  ·obtain ⟨rest1, w, g1, g2, g3, g4, g5, g6, g7, g8⟩ := PW.ok hV hf hft _ rest (yG _) hF hv
   have ht := take_ok g2 g6 g5 g7 g8
   cases c with
   | zero =>
    have := ht.2.2.2.1
    omega
   | succ c =>
    obtain ⟨ws, ns, h⟩ := PR.ex hV hf hft c (tkR rest1 w) (by have := ht.2.2.2.1; omega) (take_Fv g2 g6 g5 g7 g8 (.inr ⟨rfl, rfl⟩))
    exact ⟨_, _, .step hv g1 h⟩
  ·exact ⟨[], [], .stop (by omega)⟩
theorem PW.det {rest r1 r2 : List Int} {w1 w2 : List Nat} (h : PW N arcs f t rest r1 w1) (h2 : PW N arcs f t rest r2 w2) : r1 = r2 ∧ w1 = w2 := by
 induction h with
 | way h => cases h2 with
  | way g => rw [h] at g; simp at g; exact ⟨rfl, g⟩
  | circ g _ => rw [h] at g; simp at g
 | circ h _ ih => cases h2 with
  | way g => rw [h] at g; simp at g
  | circ g g2 =>
   rw [h] at g
   simp only [yU, and_true] at g
   subst g
   exact ih g2
theorem PR.circ {rest rest1 : List Int} {ws : List (List Nat)} {ns : List Int} (h : PR N arcs f t rest ws ns) (hv : 0 < valTo arcs f rest arcs.length) (ha : att arcs t (N + 1) rest [] f = (rest1, none)) (hv1 : 0 < valTo arcs f rest1 arcs.length) : PR N arcs f t rest1 ws ns := by
 cases h with
 | stop h => omega
 | step h h2 h3 =>
  cases h2 with
  | way g => rw [ha] at g; simp at g
  | circ g g2 =>
   rw [ha] at g
   simp only [yU, and_true] at g
   subst g
   exact .step hv1 g2 h3
theorem PR.way {rest : List Int} {w : List Nat} {ws : List (List Nat)} {ns : List Int} (h : PR N arcs f t rest ws ns) (hv : 0 < valTo arcs f rest arcs.length) (ha : att arcs t (N + 1) rest [] f = (rest, some w)) : ∃ ws' ns', ws = w :: ws' ∧ ns = tkN rest w :: ns' ∧ PR N arcs f t (tkR rest w) ws' ns' := by
 cases h with
 | stop h => omega
 | step h h2 h3 =>
  obtain ⟨rfl, rfl⟩ := (PW.way ha).det h2
  exact ⟨_, _, rfl, rfl, h3⟩
end
end Go.Fx.P.F
namespace Go.Fx.P.F
open Go Go.Fx Go.Proofs
set_option maxRecDepth 20000
def encN (i : Nat) : List V := [.i i]
def rows (w : List Nat) : List (List V) := w.map encN
theorem encN_0 (x : Nat) : (encN x)[0]? = some (.i x) := rfl
theorem rows_len {w : List Nat} : (rows w).length = w.length := by simp [rows]
theorem rows_get {w : List Nat} {i : Nat} (h : i < (rows w).length) : (rows w)[i] = encN (w[i]'(by simpa [rows] using h)) := by simp [rows]
def zI : Option Nat → Int
 | some i => i
 | none => -1
theorem ok104 (n : Int) (arcs : List Arc) (rest : List Int) (v : Int) (hl : rest.length = arcs.length) (hb : arcs.length ≤ 4096) : Ok 104 [net n arcs, bli rest, .i v] (Is (.i (zI (firstI arcs rest v)))) := by
 refine ok_of lw104 (by simp) ?_
 unfold c104
 simp -implicitDefEqProofs only [rX,↓rY,ofConst,cells?,↓reduceIte,Nat.reduceAdd,freshP,cxN,args0,net,bli]
 refine loopP_intro (fun k : Nat => ⟨[(7, .i k), (3, .ptr 0 0 0), (1, .bro 1 (rest.map encI)), (2, .i v)], [.var [.i n, .ro 4 (arcs.map Arc.enc)]], 0⟩) (fun k => k ≤ arcs.length ∧ ∀ j, j < k → ¬ ((gA arcs j).from_ = v ∧ 0 < rest.getD j 0)) (fun k => arcs.length - k) 0 (by simp) ?_ ?_
 ·simp -implicitDefEqProofs only [rX,↓reduceIte,Nat.reduceEqDiff,reduceCtorEq,leE,leH,leB,leV,leVs,keepP,liveP,wfE,wfB,wfV,wfL,leVs,leV,yC]
 rintro k ⟨hk, hv⟩
 simp -implicitDefEqProofs only [rX,↓rY,rZ,ofConst,↓reduceIte,Nat.reduceEqDiff,resP,tupV,leE,leH,leB,leV,leVs,keepP,liveP,wfE,wfB,wfV,wfL]
 simp only [br, decide_eq_true_eq, decide_eq_false_iff_not, beq_iff_eq, beq_eq_false_iff_ne]
 refine fun hm => ⟨fun h => ⟨⟨by omega, h⟩, by omega, ?_⟩, fun h => ?_⟩
 ·have hk1 : k < arcs.length := by omega
  have hk2 : k < rest.length := by omega
  have hga : gA arcs k = arcs[k] := getD_nil (a := ⟨0,0,0,0⟩) hk1
  have hgr : rest.getD k 0 = rest[k] := by rw [yA, yB hk2]; rfl
  have no : ¬ ((gA arcs k).from_ = v ∧ 0 < rest.getD k 0) → ∀ j, j < k + 1 → ¬ ((gA arcs j).from_ = v ∧ 0 < rest.getD j 0) := by
   intro h1 j hj
   by_cases e : j = k
   ·subst e; exact h1
   ·exact hv j (by omega)
  refine ⟨fun he => ⟨⟨by omega, by omega⟩, by omega, fun hp => ?_, fun hp => ⟨by simp only [lo, hi]; omega, k + 1, ⟨⟨by omega, no ?_⟩, by omega⟩, by simp⟩⟩, fun he => ⟨by simp only [lo, hi]; omega, k + 1, ⟨⟨by omega, no ?_⟩, by omega⟩, by simp⟩⟩
  ·have : firstI arcs rest v = some k := by
    unfold firstI
    rw [List.find?_range_eq_some]
    refine ⟨by rw [hga, hgr]; simp [he, hp], yJ.2 hk1, fun j hj => ?_⟩
    have := hv j hj
    simp only [Bool.not_eq_true', Bool.and_eq_false_iff, decide_eq_false_iff_not]
    by_cases c : (gA arcs j).from_ = v
    ·exact .inr fun h => this ⟨c, h⟩
    ·exact .inl c
   rw [this]; rfl
  ·rw [hgr]; exact fun h => hp h.2
  ·rw [hga]; exact fun h => he h.1
 ·have hke : k = arcs.length := by omega
  have : firstI arcs rest v = none := by
   unfold firstI
   rw [List.find?_eq_none]
   intro j hj
   rw [yJ] at hj
   have := hv j (by omega)
   simp only [vL, decide_eq_true_eq]
   exact this
  rw [this]; rfl
theorem ok105 (n : Int) (arcs : List Arc) (w : List Nat) (v : Int) (hw : ∀ i ∈ w, i < arcs.length) (hb : arcs.length ≤ 4096) (hn : w.length ≤ 1000) : Ok 105 [net n arcs, .bro 1 (rows w), .i v] (Is (.i (zI (seenI arcs w v)))) := by
 refine ok_of lw105 (by simp) ?_
 unfold c105
 simp -implicitDefEqProofs only [rX,↓rY,ofConst,cells?,↓reduceIte,Nat.reduceAdd,freshP,cxN,args0,net]
 refine loopP_intro (fun k : Nat => ⟨[(7, .i k), (3, .ptr 0 0 0), (1, .bro 1 (rows w)), (2, .i v)], [.var [.i n, .ro 4 (arcs.map Arc.enc)]], 0⟩) (fun k => k ≤ w.length ∧ ∀ j (hj : j < w.length), j < k → (gA arcs w[j]).from_ ≠ v) (fun k => w.length - k) 0 (by simp) ?_ ?_
 ·simp -implicitDefEqProofs only [rX,↓reduceIte,Nat.reduceEqDiff,reduceCtorEq,leE,leH,leB,leV,leVs,keepP,liveP,wfE,wfB,wfV,wfL,leVs,leV,yC]
 rintro k ⟨hk, hv⟩
 simp -implicitDefEqProofs only [rX,↓rY,rZ,ofConst,↓reduceIte,Nat.reduceEqDiff,resP,tupV,leE,leH,leB,leV,leVs,keepP,liveP,wfE,wfB,wfV,wfL,rows_len,rows_get,encN_0]
 simp only [br, decide_eq_true_eq, decide_eq_false_iff_not, beq_iff_eq, beq_eq_false_iff_ne]
 refine fun hm => ⟨fun h => ⟨⟨by omega, h⟩, by omega, ?_⟩, fun h => ?_⟩
 ·have hk1 : k < w.length := by omega
  have hwk := hw _ (yD hk1)
  have hga : gA arcs w[k] = arcs[w[k]] := getD_nil (a := ⟨0,0,0,0⟩) hwk
  refine ⟨⟨by omega, by omega⟩, hwk, fun he => ?_, fun he => ⟨by simp only [lo, hi]; omega, k + 1, ⟨⟨by omega, fun j hj hlt => ?_⟩, by omega⟩, by simp⟩⟩
  ·have : seenI arcs w v = some k := by
    unfold seenI
    rw [vR]
    exact ⟨hk1, by rw [hga]; simpa using he, fun j hj => by simpa using hv j (by omega) hj⟩
   rw [this]; rfl
  ·by_cases e : j = k
   ·subst e; rw [hga]; exact he
   ·exact hv j hj (by omega)
 ·have hke : k = w.length := by omega
  have : seenI arcs w v = none := by
   unfold seenI
   rw [vS]
   intro i hi
   obtain ⟨j, hj, rfl⟩ := yN hi
   simpa using hv j hj (by omega)
  rw [this]; rfl
end Go.Fx.P.F
namespace Go.Fx.P.F
open Go Go.Fx Go.Proofs
set_option maxRecDepth 20000
theorem lowR_snoc (rest : List Int) (w : List Nat) (m : Int) (i : Nat) : lowR rest (w ++ [i]) m = min (lowR rest w m) (rest.getD i 0) := by simp [lowR, List.foldl_append]
theorem tkAll_snoc (d : Int) (rest : List Int) (w : List Nat) (i : Nat) : tkAll d rest (w ++ [i]) = tk1 d (tkAll d rest w) i := by simp [tkAll, List.foldl_append]
theorem low_in {rest : List Int} (hr : ∀ q, 0 ≤ rest.getD q 0 ∧ rest.getD q 0 ≤ 1073741824) : ∀ (w : List Nat) (m : Int), 0 ≤ m ∧ m ≤ 1073741824 → 0 ≤ lowR rest w m ∧ lowR rest w m ≤ 1073741824
 | [], m, h => h
 | i :: w, m, h => low_in hr w (min m (rest.getD i 0)) (by have := hr i; omega)
def takeH (rest : List Int) : List Blk := [.arr 1 (rest.map encI)]
theorem ok101 (rest : List Int) (w : List Nat) (hr : ∀ q, 0 ≤ rest.getD q 0 ∧ rest.getD q 0 ≤ 1073741824) (hne : w ≠ []) (hnd : w.Nodup) (hw : ∀ i ∈ w, i < rest.length) (hl : rest.length ≤ 4096) (hwl : w.length ≤ 4096) :
  OkN 101 [.sl 0 0 rest.length, .bro 1 (rows w)] (takeH rest) (IsA (.i (tkN rest w)) (takeH (tkR rest w))) := by
 have h0 : 0 < w.length := uM.2 hne
 have hw0 : w.getD 0 0 = w[0] := by rw [yA, yB h0]; rfl
 have hwr0 := hw _ (yD h0)
 have hg0 : rest.getD w[0] 0 = rest[w[0]] := by rw [yA, yB hwr0]; rfl
 have htn := low_in hr w (rest.getD (w.getD 0 0) 0) (hr _)
 refine okN_of [0] lw101 (by simp) ⟨trivial, trivial⟩ rfl ?_
 have h00 : vP 0 = 0 := rfl
 unfold c101 takeH
 simp -implicitDefEqProofs only [rX,↓rY,rZ,ofConst,↓reduceIte,Nat.reduceEqDiff,arrSz,reduceCtorEq,cxN,args0,cxN,rows_len,rows_get,encN_0,h00]
 refine ⟨⟨by omega, by omega⟩, by simpa using h0, ⟨by omega, by omega⟩, by simpa using hwr0, fun hm => ?_⟩
 refine loopP_intro (fun k : Nat => ⟨[(18, .i k), (17, .i w.length), (16, .bro 1 (rows w)), (5, .i (lowR rest (w.take k) rest[w[0]])), (1, .bro 1 (rows w)), (0, .sl 0 0 rest.length)], takeH rest, 0⟩) (fun k => k ≤ w.length) (fun k => w.length - k) 0 (by simp) ?_ ?_
 ·unfold takeH
  simp -implicitDefEqProofs only [rX,↓reduceIte,Nat.reduceEqDiff,reduceCtorEq,leE,leH,leB,keepP,liveP,wfE,wfB,wfV,yC,lowR,vW]
  first | done | rfl
 intro k hk
 unfold takeH
 simp -implicitDefEqProofs only [rX,↓rY,rZ,ofConst,↓reduceIte,Nat.reduceEqDiff,arrSz,reduceCtorEq,leE,leH,leB,keepP,liveP,wfE,wfB,wfV,rows_len,rows_get,encN_0]
 simp only [br, decide_eq_true_eq, decide_eq_false_iff_not]
 refine ⟨fun h => ⟨⟨by omega, h⟩, by omega, ?_⟩, fun h => ?_⟩
 ·have hk1 : k < w.length := by omega
  have hwk := hw _ (yD hk1)
  have hgk : rest.getD w[k] 0 = rest[w[k]] := by rw [yA, yB hwk]; rfl
  refine ⟨⟨by omega, by omega⟩, hwk, by simp only [lo, hi]; omega, k + 1, ⟨by omega, by omega⟩, by omega, ?_⟩
  rw [vX, yB hk1, vY, lowR_snoc, hgk]
 ·have hke : k = w.length := by omega
  subst hke
  intro _
  rw [vK]
  have hlow : lowR rest w rest[w[0]] = tkN rest w := by unfold tkN; rw [hw0, hg0]
  rw [hlow]
  refine loopP_intro (fun k : Nat => ⟨[(31, .i k), (30, .i w.length), (29, .bro 1 (rows w)), (5, .i (tkN rest w)), (0, .sl 0 0 rest.length)], takeH (tkAll (tkN rest w) rest (w.take k)), 0⟩) (fun k => k ≤ w.length) (fun k => w.length - k) 0 (by simp) ?_ ?_
  ·unfold takeH
   simp -implicitDefEqProofs only [rX,↓reduceIte,Nat.reduceEqDiff,reduceCtorEq,leE,leH,leB,keepP,liveP,wfE,wfB,wfV,yC,tkAll,vW]
  intro k hk
  unfold takeH
  simp -implicitDefEqProofs only [rX,↓rY,rZ,ofConst,cells?,splice,↓reduceIte,Nat.reduceEqDiff,arrSz,reduceCtorEq,resP,tupV,leE,leH,leB,keepP,liveP,wfE,wfB,wfV,isD,isC,rows_len,rows_get,encN_0,tkAll_len,mapI_set,retP_isA]
  simp only [br, decide_eq_true_eq, decide_eq_false_iff_not]
  refine ⟨fun h => ⟨⟨by omega, h⟩, by omega, ?_⟩, fun h => ?_⟩
  ·have hk1 : k < w.length := by omega
   have hwk := hw _ (yD hk1)
   have hgk : (tkAll (tkN rest w) rest (w.take k)).getD w[k] 0 = (tkAll (tkN rest w) rest (w.take k))[w[k]]'(by rw [tkAll_len]; exact hwk) := by rw [yA, yB (by rw [tkAll_len]; exact hwk)]; rfl
   have hbd := tkAll_get (d := tkN rest w) (w := w.take k) (rest := rest) (vG (List.take_sublist _ _) hnd) (fun i hi => hw i (uY hi)) w[k]
   rw [hgk] at hbd
   have hrk := hr w[k]
   have htn2 : 0 ≤ tkN rest w ∧ tkN rest w ≤ 1073741824 := htn
   have hbd2 : -1073741824 ≤ (tkAll (tkN rest w) rest (w.take k))[w[k]]'(by rw [tkAll_len]; exact hwk) ∧ (tkAll (tkN rest w) rest (w.take k))[w[k]]'(by rw [tkAll_len]; exact hwk) ≤ 1073741824 := by
    rw [hbd]; split <;> omega
   refine ⟨⟨by omega, by omega⟩, hwk, ⟨by simp only [lo]; omega, by simp only [hi]; omega⟩, ⟨by omega, by omega⟩, hwk, by simp only [lo, hi]; omega, k + 1, ⟨by omega, by omega⟩, by omega, ?_⟩
   rw [vX, yB hk1, vY, tkAll_snoc]
   simp only [tk1, hgk]
  ·have hke : k = w.length := by omega
   subst hke
   rw [vK]
   rfl
theorem ok81 (rest : List Int) (w : List Nat) (hr : ∀ q, 0 ≤ rest.getD q 0 ∧ rest.getD q 0 ≤ 1073741824) (hne : w ≠ []) (hnd : w.Nodup) (hw : ∀ i ∈ w, i < rest.length) (hl : rest.length ≤ 4096) (hwl : w.length ≤ 4096) :
  OkN 81 [.sl 0 0 rest.length, .bro 1 (rows w)] (takeH rest) (IsA (.i (tkN rest w)) (takeH (tkR rest w))) := by
 have h0 : 0 < w.length := uM.2 hne
 have hw0 : w.getD 0 0 = w[0] := by rw [yA, yB h0]; rfl
 have hwr0 := hw _ (yD h0)
 have hg0 : rest.getD w[0] 0 = rest[w[0]] := by rw [yA, yB hwr0]; rfl
 have htn := low_in hr w (rest.getD (w.getD 0 0) 0) (hr _)
 refine okN_of [0] lw81 (by simp) ⟨trivial, trivial⟩ rfl ?_
 have h00 : vP 0 = 0 := rfl
 unfold c81 takeH
 simp -implicitDefEqProofs only [rX,↓rY,rZ,ofConst,↓reduceIte,Nat.reduceEqDiff,arrSz,reduceCtorEq,cxN,args0,cxN,rows_len,rows_get,encN_0,h00]
 refine ⟨⟨by omega, by omega⟩, by simpa using h0, ⟨by omega, by omega⟩, by simpa using hwr0, ?_⟩
 refine loopP_intro (fun k : Nat => ⟨[(6, .i k), (5, .i (lowR rest (w.take k) rest[w[0]])), (1, .bro 1 (rows w)), (0, .sl 0 0 rest.length)], takeH rest, 0⟩) (fun k => k ≤ w.length) (fun k => w.length - k) 0 (by simp) ?_ ?_
 ·unfold takeH
  simp -implicitDefEqProofs only [rX,↓reduceIte,Nat.reduceEqDiff,reduceCtorEq,leE,leH,leB,keepP,liveP,wfE,wfB,wfV,yC,lowR,vW]
  first | done | rfl
 intro k hk
 unfold takeH
 simp -implicitDefEqProofs only [rX,↓rY,rZ,ofConst,↓reduceIte,Nat.reduceEqDiff,arrSz,reduceCtorEq,leE,leH,leB,keepP,liveP,wfE,wfB,wfV,rows_len,rows_get,encN_0]
 simp only [br, decide_eq_true_eq, decide_eq_false_iff_not]
 refine fun hm => ⟨fun h => ⟨⟨by omega, h⟩, by omega, ?_⟩, fun h => ?_⟩
 ·have hk1 : k < w.length := by omega
  have hwk := hw _ (yD hk1)
  have hgk : rest.getD w[k] 0 = rest[w[k]] := by rw [yA, yB hwk]; rfl
  refine ⟨⟨by omega, by omega⟩, hwk, by simp only [lo, hi]; omega, k + 1, ⟨by omega, by omega⟩, by omega, ?_⟩
  rw [vX, yB hk1, vY, lowR_snoc, hgk]
 ·have hke : k = w.length := by omega
  subst hke
  rw [vK]
  have hlow : lowR rest w rest[w[0]] = tkN rest w := by unfold tkN; rw [hw0, hg0]
  rw [hlow]
  refine loopP_intro (fun k : Nat => ⟨[(7, .i k), (5, .i (tkN rest w)), (1, .bro 1 (rows w)), (0, .sl 0 0 rest.length)], takeH (tkAll (tkN rest w) rest (w.take k)), 0⟩) (fun k => k ≤ w.length) (fun k => w.length - k) 0 (by simp) ?_ ?_
  ·unfold takeH
   simp -implicitDefEqProofs only [rX,↓reduceIte,Nat.reduceEqDiff,reduceCtorEq,leE,leH,leB,keepP,liveP,wfE,wfB,wfV,yC,tkAll,vW]
  intro k hk
  unfold takeH
  simp -implicitDefEqProofs only [rX,↓rY,rZ,ofConst,cells?,splice,↓reduceIte,Nat.reduceEqDiff,arrSz,reduceCtorEq,resP,tupV,leE,leH,leB,keepP,liveP,wfE,wfB,wfV,isD,isC,rows_len,rows_get,encN_0,tkAll_len,mapI_set,retP_isA]
  simp only [br, decide_eq_true_eq, decide_eq_false_iff_not]
  refine fun hm2 => ⟨fun h => ⟨⟨by omega, h⟩, by omega, ?_⟩, fun h => ?_⟩
  ·have hk1 : k < w.length := by omega
   have hwk := hw _ (yD hk1)
   have hgk : (tkAll (tkN rest w) rest (w.take k)).getD w[k] 0 = (tkAll (tkN rest w) rest (w.take k))[w[k]]'(by rw [tkAll_len]; exact hwk) := by rw [yA, yB (by rw [tkAll_len]; exact hwk)]; rfl
   have hbd := tkAll_get (d := tkN rest w) (w := w.take k) (rest := rest) (vG (List.take_sublist _ _) hnd) (fun i hi => hw i (uY hi)) w[k]
   rw [hgk] at hbd
   have hrk := hr w[k]
   have htn2 : 0 ≤ tkN rest w ∧ tkN rest w ≤ 1073741824 := htn
   have hbd2 : -1073741824 ≤ (tkAll (tkN rest w) rest (w.take k))[w[k]]'(by rw [tkAll_len]; exact hwk) ∧ (tkAll (tkN rest w) rest (w.take k))[w[k]]'(by rw [tkAll_len]; exact hwk) ≤ 1073741824 := by
    rw [hbd]; split <;> omega
   refine ⟨⟨by omega, by omega⟩, hk1, ⟨by omega, by omega⟩, hwk, ⟨by simp only [lo]; omega, by simp only [hi]; omega⟩, ⟨by omega, by omega⟩, hwk, by simp only [lo, hi]; omega, k + 1, ⟨by omega, by omega⟩, by omega, ?_⟩
   rw [vX, yB hk1, vY, tkAll_snoc]
   simp only [tk1, hgk]
  ·have hke : k = w.length := by omega
   subst hke
   rw [vK]
   rfl
end Go.Fx.P.F
namespace Go.Fx.P.F
open Go Go.Fx Go.Proofs
set_option maxRecDepth 20000
theorem ok98n : Ok 98 [.bro 1 ([] : List (List V))] (fun r hs => (r = .nil ∧ hs = []) ∨ (r = .sl 0 0 0 ∧ hs = [.arr 1 []])) := by
 refine ok_of lw98 (by simp) ?_
 unfold c98
 simp -implicitDefEqProofs only [rX,↓rY,ofConst,↓reduceIte,Nat.reduceEqDiff,reduceCtorEq,freshP,litsP,resP,tupV,keepP,liveP,wfV,killE,killB,kill,St.kill,cxN,args0,retP_eq]
 refine ⟨fun h => absurd rfl h, fun _ => ⟨⟨[], ⟨by simp [leH], vZ _, by simp [wfB]⟩, .inl rfl⟩, .inl trivial, by decide, [.arr 1 []], ⟨by simp [leH, leB], by simp, trivial, by simp [wfB]⟩, .inr rfl⟩⟩
theorem ok98c (a : Int) (l : List Int) (h : (a :: l).length ≤ 4096) : Ok 98 [.bro 1 ((a :: l).map encI)] (IsA (.sl 0 0 (a :: l).length) [.arr 1 ((a :: l).map encI)]) := by
 refine ok_of lw98 (by simp) ?_
 unfold c98
 simp -implicitDefEqProofs only [rX,↓rY,ofConst,↓reduceIte,Nat.reduceEqDiff,reduceCtorEq,freshP,litsP,resP,tupV,leH,leB,keepP,liveP,wfB,wfV,killE,killB,kill,St.kill,Nat.reduceLeDiff,cxN,args0,retP_isA]
 rw [yW] at h
 exact ⟨fun _ => by omega, fun h => h.elim⟩
theorem ok98 (l : List Int) (h : l.length ≤ 4096) : Ok 98 [.bro 1 (l.map encI)] (IsA (.sl 0 0 l.length) [.arr 1 (l.map encI)]) := by
 cases l with
 | cons a l => exact ok98c a l h
 | nil =>
  refine ⟨ok98n.1, Fn_ghost ok98n.2 ?_⟩
  rintro r hs (⟨rfl, rfl⟩ | ⟨rfl, rfl⟩)
  ·exact ⟨_, _, ⟨rfl, rfl⟩, _, .virt 1 1 (by decide) (.nilE 0 0 rfl (.refl _)), by simp [leS, leE, get, leH, leB, keepP, wfE, wfV, liveP, wfB]⟩
  ·exact ⟨_, _, ⟨rfl, rfl⟩, _, .refl _, by simp [leS, leE, get, leH, leB, keepP, wfE, wfV, liveP, wfB]⟩
def restH2 (rest : List Int) : List Blk := [.var [.sl 1 0 rest.length], .arr 1 (rest.map encI)]
theorem ok99 (i : Nat) (rest : List Int) (hi : i < rest.length) : OkN 99 [.i i, .ptr 0 0 0] (restH2 rest) (IsA (.b (decide (0 < rest.getD i 0))) (restH2 rest)) := by
 have hg : rest.getD i 0 = rest[i] := by rw [yA, yB hi]; rfl
 refine okN_of [0, 1] lw99 (by simp) ⟨trivial, trivial, trivial⟩ rfl ?_
 rw [hg]
 unfold c99 restH2
 simp -implicitDefEqProofs only [rX,↓rY,rZ,ofConst,↓reduceIte,Nat.reduceEqDiff,arrSz,Nat.reduceAdd,reduceCtorEq,resP,tupV,leH,leB,leV,leVs,keepP,liveP,wfB,wfV,wfL,cxN,args0,cxN,retP_isA]
 exact ⟨⟨by omega, by omega⟩, hi, trivial⟩
def atH (N : Nat) (arcs : List Arc) (at_ : Int) : List Blk := [.var [.i N, .ro 4 (arcs.map Arc.enc)], .var [.i at_]]
theorem ok100 (N i : Nat) (arcs : List Arc) (at_ : Int) (hi : i < arcs.length) : OkN 100 [.i i, .ptr 0 0 0, .ptr 1 0 0] (atH N arcs at_) (IsA (.b (decide ((gA arcs i).from_ = at_))) (atH N arcs at_)) := by
 refine okN_of [0, 1] lw100 (by simp) ⟨trivial, trivial, trivial⟩ rfl ?_
 rw [getD_nil (a := ⟨0,0,0,0⟩) hi]
 unfold c100 atH
 simp -implicitDefEqProofs only [rX,↓rY,rZ,ofConst,↓reduceIte,Nat.reduceEqDiff,Nat.reduceAdd,reduceCtorEq,resP,tupV,leH,leB,leV,leVs,keepP,liveP,wfB,wfV,wfL,cxN,args0,cxN,retP_isA]
 exact ⟨⟨by omega, by omega⟩, hi, rfl⟩
def noP (p : Nat → Bool) (l : List Nat) (k : Nat) : Prop := ∀ j (hj : j < l.length), j < k → p l[j] = false
theorem noP_0 {p : Nat → Bool} {l : List Nat} : noP p l 0 := fun j hj h => by omega
theorem idx_stop {p : Nat → Bool} {l : List Nat} {k : Nat} (hk : k < l.length) (h1 : p l[k] = true) (h2 : noP p l k) : l.findIdx? p = some k := by
 rw [vR]
 exact ⟨hk, h1, fun j hj => by rw [h2 j (by omega) hj]; simp⟩
theorem idx_none {p : Nat → Bool} {l : List Nat} (h2 : noP p l l.length) : l.findIdx? p = none := by
 rw [vS]
 intro i hi
 obtain ⟨j, hj, rfl⟩ := yN hi
 exact h2 j hj hj
theorem no_more {p : Nat → Bool} {l : List Nat} {k : Nat} (hk : k < l.length) (h1 : p l[k] = false) (h2 : noP p l k) : noP p l (k + 1) := by
 intro j hj hlt
 by_cases e : j = k
 ·subst e; exact h1
 ·exact h2 j hj (by omega)
def posI (rest : List Int) (l : List Nat) : Option Nat := l.findIdx? fun i => decide (0 < rest.getD i 0)
theorem ok82a (l : List Nat) (rest : List Int) (hl : ∀ i ∈ l, i < rest.length) (hn : l.length ≤ 4096) : OkN 82 [.bro 1 (rows l), .clo 99 [.ptr 0 0 0]] (restH2 rest) (IsA (.i (zI (posI rest l))) (restH2 rest)) := by
 refine okN_of [0, 1] lw82 (by simp) ⟨trivial, trivial, trivial⟩ rfl ?_
 unfold c82 restH2
 simp -implicitDefEqProofs only [rX,↓rY,ofConst,↓reduceIte,Nat.reduceAdd,reduceCtorEq,cxN,args0,cxN,rows_len]
 intro hm
 refine loopP_intro (fun k : Nat => ⟨[(8, .i k), (7, .i l.length), (1, .clo 99 [.ptr 0 0 0]), (0, .bro 1 (rows l))], restH2 rest, 0⟩) (fun k => k ≤ l.length ∧ noP (fun i => decide (0 < rest.getD i 0)) l k) (fun k => l.length - k) 0 ⟨vZ _, noP_0⟩ ?_ ?_
 ·unfold restH2
  simp -implicitDefEqProofs only [rX,↓reduceIte,Nat.reduceEqDiff,reduceCtorEq,leE,leH,leB,leV,leVs,keepP,liveP,wfE,wfB,wfV,wfL,leVs,leV,yC]
 rintro k ⟨hk, hv⟩
 unfold c82l0
 unfold restH2
 simp -implicitDefEqProofs only [rX,↓rY,ofConst,↓reduceIte,Nat.reduceEqDiff,Nat.reduceAdd,reduceCtorEq,resP,tupV,leH,leB,leV,leVs,keepP,liveP,wfB,wfV,wfL,rows_len,rows_get,encN_0,retP_isA]
 simp only [br, decide_eq_true_eq, decide_eq_false_iff_not]
 refine ⟨fun h => ⟨⟨by omega, h⟩, by omega, ?_⟩, fun h => ?_⟩
 ·have hk1 : k < l.length := by omega
  refine call_isN [0, 1] [.i l[k], .ptr 0 0 0] (.b (decide (0 < rest.getD l[k] 0))) (.b (decide (0 < rest.getD l[k] 0))) (restH2 rest) (restH2 rest) (restH2 rest) (ok99 l[k] rest (hl _ (yD hk1))) (by simp) rfl (by simp [lendsOk, lendOk, lends, lend, wkL, wk, pos]) (by simp [restH2]) rfl rfl ⟨trivial, trivial, trivial⟩ ?_
  unfold restH2
  cases hp : decide (0 < rest.getD l[k] 0) with
  | true =>
   simp -implicitDefEqProofs only [rX,↓rY,↓reduceIte,Nat.reduceEqDiff,Nat.reduceAdd,resP,tupV,leH,leB,leV,leVs,keepP,liveP,wfB,wfV,wfL,retP_isA,leVs,leV]
   rw [show posI rest l = some k from idx_stop hk1 hp hv]; rfl
  | false =>
   simp -implicitDefEqProofs only [rX,↓rY,ofConst,↓reduceIte,Nat.reduceEqDiff,Nat.reduceAdd,reduceCtorEq,leE,leH,leB,leV,leVs,keepP,liveP,wfE,wfB,wfV,wfL,leVs,leV]
   exact ⟨by simp only [lo, hi]; omega, k + 1, ⟨⟨by omega, no_more (p := fun i => decide (0 < rest.getD i 0)) hk1 hp hv⟩, by omega⟩, by simp⟩
 ·have hke : k = l.length := by omega
  subst hke
  rw [show posI rest l = none from idx_none (p := fun i => decide (0 < rest.getD i 0)) hv]; rfl
theorem ok82b (N : Nat) (w : List Nat) (arcs : List Arc) (at_ : Int) (hl : ∀ i ∈ w, i < arcs.length) (hn : w.length ≤ 4096) : OkN 82 [.bro 1 (rows w), .clo 100 [.ptr 0 0 0, .ptr 1 0 0]] (atH N arcs at_) (IsA (.i (zI (seenI arcs w at_))) (atH N arcs at_)) := by
 refine okN_of [0, 1] lw82 (by simp) ⟨trivial, trivial, trivial⟩ rfl ?_
 unfold c82 atH
 simp -implicitDefEqProofs only [rX,↓rY,ofConst,↓reduceIte,Nat.reduceAdd,reduceCtorEq,cxN,args0,cxN,rows_len]
 intro hm
 refine loopP_intro (fun k : Nat => ⟨[(8, .i k), (7, .i w.length), (1, .clo 100 [.ptr 0 0 0, .ptr 1 0 0]), (0, .bro 1 (rows w))], atH N arcs at_, 0⟩) (fun k => k ≤ w.length ∧ noP (fun i => decide ((gA arcs i).from_ = at_)) w k) (fun k => w.length - k) 0 ⟨vZ _, noP_0⟩ ?_ ?_
 ·unfold atH
  simp -implicitDefEqProofs only [rX,↓reduceIte,Nat.reduceEqDiff,reduceCtorEq,leE,leH,leB,leV,leVs,keepP,liveP,wfE,wfB,wfV,wfL,leVs,leV,yC]
 rintro k ⟨hk, hv⟩
 unfold c82l0
 unfold atH
 simp -implicitDefEqProofs only [rX,↓rY,ofConst,↓reduceIte,Nat.reduceEqDiff,Nat.reduceAdd,reduceCtorEq,resP,tupV,leH,leB,leV,leVs,keepP,liveP,wfB,wfV,wfL,rows_len,rows_get,encN_0,retP_isA]
 simp only [br, decide_eq_true_eq, decide_eq_false_iff_not]
 refine ⟨fun h => ⟨⟨by omega, h⟩, by omega, ?_⟩, fun h => ?_⟩
 ·have hk1 : k < w.length := by omega
  refine call_isN [0, 1] [.i w[k], .ptr 0 0 0, .ptr 1 0 0] (.b (decide ((gA arcs w[k]).from_ = at_))) (.b (decide ((gA arcs w[k]).from_ = at_))) (atH N arcs at_) (atH N arcs at_) (atH N arcs at_) (ok100 N w[k] arcs at_ (hl _ (yD hk1))) (by simp) rfl (by simp [lendsOk, lendOk, lends, lend, wkL, wk, pos]) (by simp [atH]) ?_ rfl ⟨trivial, trivial, trivial⟩ ?_
  ·simp [atH, setAll, renB, rens, ren, back]
  unfold atH
  cases hp : decide ((gA arcs w[k]).from_ = at_) with
  | true =>
   simp -implicitDefEqProofs only [rX,↓rY,↓reduceIte,Nat.reduceEqDiff,Nat.reduceAdd,resP,tupV,leH,leB,leV,leVs,keepP,liveP,wfB,wfV,wfL,retP_isA,leVs,leV]
   rw [show seenI arcs w at_ = some k from idx_stop hk1 hp hv]; rfl
  | false =>
   simp -implicitDefEqProofs only [rX,↓rY,ofConst,↓reduceIte,Nat.reduceEqDiff,Nat.reduceAdd,reduceCtorEq,leE,leH,leB,leV,leVs,keepP,liveP,wfE,wfB,wfV,wfL,leVs,leV]
   exact ⟨by simp only [lo, hi]; omega, k + 1, ⟨⟨by omega, no_more (p := fun i => decide ((gA arcs i).from_ = at_)) hk1 hp hv⟩, by omega⟩, by simp⟩
 ·have hke : k = w.length := by omega
  subst hke
  rw [show seenI arcs w at_ = none from idx_none (p := fun i => decide ((gA arcs i).from_ = at_)) hv]; rfl
end Go.Fx.P.F
namespace Go.Fx.P.F
open Go Go.Fx Go.Proofs
set_option maxRecDepth 20000
theorem get4 {α : Type} {a b c d : α} {l : List α} {q : Nat} : (a :: b :: c :: d :: l)[q + 4]? = l[q]? := rfl
theorem set4 {α : Type} {a b c d x : α} {l : List α} {q : Nat} : (a :: b :: c :: d :: l).set (q + 4) x = a :: b :: c :: d :: l.set q x := rfl
def fromN (arcs : List Arc) (v : Int) (k : Nat) : List Nat := (yP k).filter fun i => decide ((gA arcs i).from_ = v)
theorem fromN_yes {R : List Arc} {v : Int} {k : Nat} (h : (gA R k).from_ = v) : fromN R v (k + 1) = fromN R v k ++ [k] := by
 simp [fromN, uN, vO, h]
theorem fromN_no {R : List Arc} {v : Int} {k : Nat} (h : (gA R k).from_ ≠ v) : fromN R v (k + 1) = fromN R v k := by
 simp [fromN, uN, vO, h]
theorem fromN_len {R : List Arc} {v : Int} {k : Nat} : (fromN R v k).length ≤ k := by
 have := List.length_filter_le (fun i => decide ((gA R i).from_ = v)) (yP k)
 rwa [vB] at this
theorem fromN_lt {R : List Arc} {v : Int} {k i : Nat} (h : i ∈ fromN R v k) : i < k := by
 unfold fromN at h
 rw [List.mem_filter, yJ] at h
 exact h.1
def begS (arcs : List Arc) (N k : Nat) : List (List V) := (yP N).map fun (v : Nat) => [.sl (v + 4) 0 (fromN arcs v k).length]
def begB (arcs : List Arc) (N k : Nat) : List Blk := (yP N).map fun (v : Nat) => .arr 1 (rows (fromN arcs v k))
theorem begS_len {arcs : List Arc} {N k : Nat} : (begS arcs N k).length = N := by simp [begS]
theorem begB_len {arcs : List Arc} {N k : Nat} : (begB arcs N k).length = N := by simp [begB]
theorem begS_get {arcs : List Arc} {N k v : Nat} (h : v < (begS arcs N k).length) : (begS arcs N k)[v] = [.sl (v + 4) 0 (fromN arcs v k).length] := by simp [begS]
theorem begB_in {arcs : List Arc} {N k v : Nat} {l : List Blk} (h : v < N) : (begB arcs N k ++ l)[v]? = some (.arr 1 (rows (fromN arcs v k))) := by
 rw [vM (by rw [begB_len]; exact h)]
 simp [begB, h]
theorem begB_out {arcs : List Arc} {N k q : Nat} {l : List Blk} : (begB arcs N k ++ l)[N + q]? = l[q]? := by
 rw [vN (by rw [begB_len]; omega), begB_len]; congr 1; omega
theorem begB_out0 {arcs : List Arc} {N k : Nat} {l : List Blk} : (begB arcs N k ++ l)[N]? = l[0]? := begB_out (q := 0)
theorem begB_set {arcs : List Arc} {N k q : Nat} {l : List Blk} {x : Blk} : (begB arcs N k ++ l).set (N + q) x = begB arcs N k ++ l.set q x := by
 rw [uK _ _ (by rw [begB_len]; omega), begB_len]; congr 2; omega
theorem begB_set0 {arcs : List Arc} {N k : Nat} {l : List Blk} {x : Blk} : (begB arcs N k ++ l).set N x = begB arcs N k ++ l.set 0 x := begB_set (q := 0)
theorem begB_put {arcs : List Arc} {N k v : Nat} {l : List Blk} {x : Blk} (h : v < N) : (begB arcs N k ++ l).set v x = (begB arcs N k).set v x ++ l := by
 rw [List.set_append_left _ _ (by rw [begB_len]; exact h)]
theorem begB_kill {arcs : List Arc} {N k : Nat} {M : List Nat} : (begB arcs N k).map (killB M) = begB arcs N k := by
 unfold begB
 rw [yQ]
 rfl
theorem begS_next {arcs : List Arc} {N k v : Nat} (hv : v < N) (hf : (gA arcs k).from_ = v) : ((begS arcs N k).map (kills [v + 4])).set v [.sl (v + 4) 0 ((fromN arcs v k).length + 1)] = begS arcs N (k + 1) := by
 apply yZ
 ·simp [begS]
 ·intro q h1 h2
  have hq : q < N := by simpa [begS] using h2
  rw [uJ, begS_get]
  by_cases e : v = q
  ·subst e
   rw [if_pos rfl, fromN_yes hf, yO]; rfl
  ·rw [if_neg e, vI, begS_get, fromN_no (by rw [hf]; omega)]
   have : ¬ (q + 4 = v + 4) := by omega
   simp [kills, kill, this]
   omega
theorem begB_next {arcs : List Arc} {N k v : Nat} (hv : v < N) (hf : (gA arcs k).from_ = v) : (begB arcs N k).set v (.arr 1 (rows (fromN arcs v k) ++ [encN k])) = begB arcs N (k + 1) := by
 apply yZ
 ·simp [begB]
 ·intro q h1 h2
  have hq : q < N := by simpa [begB] using h2
  rw [uJ]
  simp only [begB, vI, List.getElem_range]
  by_cases e : v = q
  ·subst e
   rw [if_pos rfl, fromN_yes hf]
   simp [rows]
  ·rw [if_neg e, fromN_no (by rw [hf]; omega)]
theorem begB_wf {arcs : List Arc} {N k : Nat} {q : List Blk} : wfB q (begB arcs N k) := by
 have : ∀ l : List Blk, (∀ b ∈ l, ∃ els, b = .arr 1 els) → wfB q l := by
  intro l
  induction l with
  | nil => intro _; trivial
  | cons b r ih =>
   intro h
   obtain ⟨els, rfl⟩ := h b yH
   exact ih fun b hb => h b (yM _ hb)
 refine this _ fun b hb => ?_
 unfold begB at hb
 rw [yI] at hb
 obtain ⟨v, _, rfl⟩ := hb
 exact ⟨_, rfl⟩
theorem begS_wf {arcs : List Arc} {N k : Nat} {a b c d : Blk} : wfL (a :: b :: c :: d :: begB arcs N k) (begS arcs N k).flatten := by
 refine wfL_all fun x hx => ?_
 rw [uO] at hx
 obtain ⟨l, h1, h2⟩ := hx
 unfold begS at h1
 rw [yI] at h1
 obtain ⟨v, hv, rfl⟩ := h1
 rw [yJ] at hv
 rw [vF] at h2
 subst h2
 simp only [wfV, liveP, get4]
 have := begB_in (arcs := arcs) (k := k) (l := []) hv
 rw [yK] at this
 rw [this]
 trivial
theorem leH_beg {arcs : List Arc} {N k : Nat} {l : List Blk} : leH (begB arcs N k ++ l) (begB arcs N k) := by
 have : ∀ m : List Blk, (∀ b ∈ m, ∃ els, b = .arr 1 els) → leH (m ++ l) m := by
  intro m
  induction m with
  | nil => intro _; unfold leH; trivial
  | cons b r ih =>
   intro h
   obtain ⟨els, rfl⟩ := h b yH
   exact ⟨rfl, ih fun b hb => h b (yM _ hb)⟩
 refine this _ fun b hb => ?_
 unfold begB at hb
 rw [yI] at hb
 obtain ⟨v, _, rfl⟩ := hb
 exact ⟨_, rfl⟩
def hp4 (N : Nat) (arcs : List Arc) (rest : List Int) (cells : List (List V)) (bs : List Blk) : List Blk :=
 .var [.i N, .ro 4 (arcs.map Arc.enc)] :: .var [.sl 2 0 rest.length] :: .arr 1 (rest.map encI) :: .arv 1 cells :: bs
def envP (N : Nat) (flow : List Int) (f t : Int) : Env := [(13, .sl 3 0 N), (12, .ptr 1 0 0), (4, .ptr 0 0 0), (3, .ro 1 (flow.map encI)), (2, .i t), (1, .i f)]
def pat7 (N : Nat) (arcs : List Arc) (flow : List Int) (f t : Int) (k : Nat) : St :=
 ⟨(39, .i k) :: (38, .i arcs.length) :: (37, .ro 4 (arcs.map Arc.enc)) :: envP N flow f t, hp4 N arcs flow (begS arcs N k) (begB arcs N k), 0⟩
theorem body22a (N : Nat) (arcs : List Arc) (flow : List Int) (f t : Int) (hV : Val N arcs) {RR : St → Prop} {X : Nat → St → Prop}
  (hX : ∀ b y z, X 0 ⟨(40, y) :: (39, z) :: (38, .i arcs.length) :: (37, .ro 4 (arcs.map Arc.enc)) :: envP N flow f t, hp4 N arcs flow (begS arcs N arcs.length) (begB arcs N arcs.length), b⟩) (k : Nat) (hk : k ≤ arcs.length) :
  aw cx0 c76l0 (fun s' => ∃ g' : Nat, (g' ≤ arcs.length ∧ arcs.length - g' < arcs.length - k) ∧ leS cx0.fx s' (pat7 N arcs flow f t g')) X RR (pat7 N arcs flow f t k) := by
 have hL := hV.hl
 have hfl := fun v => fromN_len (R := arcs) (k := k) (v := v)
 unfold c76l0 pat7 envP hp4
 simp -implicitDefEqProofs only [rX,↓rY,rZ,rdK,ofConst,cells?,splice,↓reduceIte,Nat.reduceEqDiff,arrSz,Nat.reduceAdd,reduceCtorEq,freshP,litsP,isD,Nat.reduceLT,cxN,get4,set4,begB_len,begB_out,begB_out0,begB_set,begB_set0,begS_len,vD]
 simp only [br, decide_eq_true_eq, decide_eq_false_iff_not]
 refine ⟨fun h => ?_, fun h => ?_⟩
 ·have hk1 : k < arcs.length := by omega
  have hgk : gA arcs k = arcs[k] := getD_nil (a := ⟨0,0,0,0⟩) hk1
  have hf := (val_in hV hk1).1
  rw [hgk] at hf
  have hv : (gA arcs k).from_ = ((arcs[k].from_.toNat : Nat) : Int) := by rw [hgk]; omega
  refine ⟨⟨by omega, h⟩, by omega, hf, by omega, ?_⟩
  simp -implicitDefEqProofs only [rX,↓rY,ofConst,cells?,splice,↓reduceIte,Nat.reduceEqDiff,arrSz,reduceCtorEq,leE,leH,leB,leV,leVs,keepP,liveP,wfE,wfB,wfV,wfL,killE,killB,kill,kills,St.kill,isC,get4,set4,begS_len,begS_get,begB_in (show arcs[k].from_.toNat < N by omega)]
  have hvN : arcs[k].from_.toNat < N := by omega
  have hf2 := hfl (arcs[k].from_.toNat : Nat)
  rw [yF, begB_kill, begB_put hvN, yL (by rw [rows_len]; omega), begS_next hvN hv, show [V.v (Value.int IntKind.i64 (k : Int))] = encN k from rfl, begB_next hvN hv]
  exact ⟨⟨by rw [rows_len]; omega, by omega⟩, by omega, hf, by omega, by simp only [lo, hi]; omega, k + 1, ⟨by omega, by omega⟩, by omega, ⟨rfl, leH_beg⟩, begS_wf, begB_wf⟩
 ·have hke : k = arcs.length := by omega
  subst hke
  have := hX (N + 1 + 1 + 1 + 1) (.b (decide ((arcs.length : Int) < arcs.length))) (.i arcs.length)
  unfold envP hp4 at this
  exact this
end Go.Fx.P.F
namespace Go.Fx.P.F
open Go Go.Fx Go.Proofs
set_option maxRecDepth 20000
def begR (arcs : List Arc) (N : Nat) : List (List V) := (yP N).map fun (v : Nat) => [.ro 1 (rows (fromN arcs v arcs.length))]
theorem begR_len {arcs : List Arc} {N : Nat} : (begR arcs N).length = N := by simp [begR]
theorem begR_get {arcs : List Arc} {N v : Nat} (h : v < (begR arcs N).length) : (begR arcs N)[v] = [.ro 1 (rows (fromN arcs v arcs.length))] := by simp [begR]
theorem begR_wf {arcs : List Arc} {N : Nat} {h : List Blk} : wfL h (begR arcs N).flatten := by
 refine wfL_all fun x hx => ?_
 rw [uO] at hx
 obtain ⟨l, h1, h2⟩ := hx
 unfold begR at h1
 rw [yI] at h1
 obtain ⟨v, _, rfl⟩ := h1
 rw [vF] at h2
 subst h2
 trivial
theorem begR_kill {arcs : List Arc} {N : Nat} {M : List Nat} : (begR arcs N).map (kills M) = begR arcs N := by
 unfold begR
 rw [yQ]
 rfl
theorem begR_gv {arcs : List Arc} {N : Nat} {M : Nat → Bool} {h : List Blk} : (begR arcs N).map (gvL M h) = begR arcs N := by
 unfold begR
 rw [yQ]
 rfl
theorem begR_mv {arcs : List Arc} {N i j : Nat} : (begR arcs N).map (mvL i j) = begR arcs N := by
 unfold begR
 rw [yQ]
 rfl
theorem begS_give {arcs : List Arc} {N : Nat} {a b c d : Blk} : (begS arcs N arcs.length).map (gvL (fun k => decide (4 ≤ k)) (a :: b :: c :: d :: begB arcs N arcs.length)) = begR arcs N := by
 apply yZ
 ·simp [begS, begR]
 ·intro v h1 h2
  have hv : v < N := by simpa [begR] using h2
  rw [vI, begS_get, begR_get]
  have hb : blk (a :: b :: c :: d :: begB arcs N arcs.length) (v + 4) = .arr 1 (rows (fromN arcs v arcs.length)) := by
   unfold blk
   have := begB_in (arcs := arcs) (k := arcs.length) (l := []) hv
   rw [yK] at this
   rw [yA, get4, this]; rfl
  simp only [gvL, gvV, hb]
  have : yE (fromN arcs (↑v) arcs.length).length (rows (fromN arcs v arcs.length)) = rows (fromN arcs v arcs.length) := yL (by rw [rows_len]; omega)
  simp [rows_len, this]
def wrows (ws : List (List Nat)) : List (List V) := ws.map fun w => [.ro 1 (rows w)]
def wcs (ws : List (List Nat)) : List (List V) := (yP ws.length).map fun j => [.sl (j + 8) 0 (ws.getD j []).length]
def wtl (ws : List (List Nat)) : List Blk := ws.map fun w => .arr 1 (rows w)
theorem wcs_len {ws : List (List Nat)} : (wcs ws).length = ws.length := by simp [wcs]
theorem wtl_len {ws : List (List Nat)} : (wtl ws).length = ws.length := by simp [wtl]
theorem wtl_out {ws : List (List Nat)} {q : Nat} {l : List Blk} : (wtl ws ++ l)[ws.length + q]? = l[q]? := by
 rw [vN (by rw [wtl_len]; omega), wtl_len]; congr 1; omega
theorem wtl_out0 {ws : List (List Nat)} {l : List Blk} : (wtl ws ++ l)[ws.length]? = l[0]? := wtl_out (q := 0)
theorem wtl_set {ws : List (List Nat)} {q : Nat} {l : List Blk} {x : Blk} : (wtl ws ++ l).set (ws.length + q) x = wtl ws ++ l.set q x := by
 rw [uK _ _ (by rw [wtl_len]; omega), wtl_len]; congr 2; omega
theorem wtl_set0 {ws : List (List Nat)} {l : List Blk} {x : Blk} : (wtl ws ++ l).set ws.length x = wtl ws ++ l.set 0 x := wtl_set (q := 0)
theorem wtl_all {ws : List (List Nat)} {b : Blk} (h : b ∈ wtl ws) : ∃ els, b = .arr 1 els := by
 unfold wtl at h
 rw [yI] at h
 obtain ⟨w, _, rfl⟩ := h
 exact ⟨_, rfl⟩
theorem wtl_kill {ws : List (List Nat)} {M : List Nat} : (wtl ws).map (killB M) = wtl ws := by
 unfold wtl
 rw [yQ]; rfl
theorem wtl_mv {ws : List (List Nat)} {i j : Nat} : (wtl ws).map (mvB i j) = wtl ws := by
 unfold wtl
 rw [yQ]; rfl
theorem wtl_gv {ws : List (List Nat)} {M : Nat → Bool} {h : List Blk} : (wtl ws).map (gvB M h) = wtl ws := by
 unfold wtl
 rw [yQ]; rfl
theorem arr_wf {q : List Blk} : ∀ {l : List Blk}, (∀ b ∈ l, ∃ els, b = .arr 1 els) → wfB q l
 | [], _ => trivial
 | b :: r, h => by
  obtain ⟨els, rfl⟩ := h b yH
  exact arr_wf (l := r) fun b hb => h b (yM _ hb)
theorem wtl_wf {ws : List (List Nat)} {q : List Blk} : wfB q (wtl ws) := arr_wf fun _ h => wtl_all h
theorem arr_leH {l : List Blk} : ∀ {m : List Blk}, (∀ b ∈ m, ∃ els, b = .arr 1 els) → leH (m ++ l) m
 | [], _ => by unfold leH; trivial
 | b :: r, h => by
  obtain ⟨els, rfl⟩ := h b yH
  exact ⟨rfl, arr_leH (m := r) fun b hb => h b (yM _ hb)⟩
theorem leH_wtl {ws : List (List Nat)} {l : List Blk} : leH (wtl ws ++ l) (wtl ws) := arr_leH fun _ h => wtl_all h
theorem leH_wtl0 {ws : List (List Nat)} : leH (wtl ws) (wtl ws) := by
 have := leH_wtl (ws := ws) (l := [])
 rwa [yK] at this
theorem wtl_in {ws : List (List Nat)} {l : List Blk} {j : Nat} (h : j < ws.length) : (wtl ws ++ l)[j]? = some (.arr 1 (rows (ws.getD j []))) := by
 rw [vM (by rw [wtl_len]; exact h)]
 simp [wtl, h]
theorem gvH_hi {h : List Blk} : ∀ {l : List Blk} {k : Nat}, 7 ≤ k → gvH (fun k => k == 6) h k l = l.map (gvB (fun k => k == 6) h)
 | [], _, _ => rfl
 | b :: r, k, hk => by
  have e : ((k == 6) = true) = False := by simp; omega
  simp only [gvH, vC, e, if_false, gvH_hi (l := r) (k := k + 1) (by omega)]
theorem get8 {α : Type} {a b c d e f g h : α} {l : List α} {q : Nat} : (a :: b :: c :: d :: e :: f :: g :: h :: l)[q + 8]? = l[q]? := rfl
theorem set8 {α : Type} {a b c d e f g h x : α} {l : List α} {q : Nat} : (a :: b :: c :: d :: e :: f :: g :: h :: l).set (q + 8) x = a :: b :: c :: d :: e :: f :: g :: h :: l.set q x := rfl
theorem wcs_wf {ws : List (List Nat)} {a b c d e f g h : Blk} {l : List Blk} : wfL (a :: b :: c :: d :: e :: f :: g :: h :: (wtl ws ++ l)) (wcs ws).flatten := by
 refine wfL_all fun x hx => ?_
 rw [uO] at hx
 obtain ⟨l, h1, h2⟩ := hx
 unfold wcs at h1
 rw [yI] at h1
 obtain ⟨v, hv, rfl⟩ := h1
 rw [yJ] at hv
 rw [vF] at h2
 subst h2
 simp only [wfV, liveP, get8, wtl_in hv]
theorem wcs_wf0 {ws : List (List Nat)} {a b c d e f g h : Blk} : wfL (a :: b :: c :: d :: e :: f :: g :: h :: wtl ws) (wcs ws).flatten := by
 have := wcs_wf (ws := ws) (a := a) (b := b) (c := c) (d := d) (e := e) (f := f) (g := g) (h := h) (l := [])
 rwa [yK] at this
theorem wcs_kill {ws : List (List Nat)} {M : List Nat} (h : ∀ k ∈ M, k < 8) : (wcs ws).map (kills M) = wcs ws := by
 unfold wcs
 rw [yQ]
 refine uA fun j _ => ?_
 have : ¬ (j + 8) ∈ M := fun hm => by have := h _ hm; omega
 simp [kills, kill, this]
theorem wcs_kill7 {ws : List (List Nat)} : (wcs ws).map (kills [7]) = wcs ws := wcs_kill (by simp)
theorem wcs_gv {ws : List (List Nat)} {M : Nat → Bool} {h : List Blk} (hM : ∀ j, j < ws.length → M (j + 8) = false) : (wcs ws).map (gvL M h) = wcs ws := by
 unfold wcs
 rw [yQ]
 refine uA fun j hj => ?_
 rw [yJ] at hj
 simp [gvL, gvV, hM j hj]
theorem wcs_mv {ws : List (List Nat)} {i j : Nat} (h : j < 8 ∨ ws.length + 8 ≤ j) : (wcs ws).map (mvL i j) = wcs ws := by
 unfold wcs
 rw [yQ]
 refine uA fun q hq => ?_
 rw [yJ] at hq
 have : ¬ (q + 8 = j) := by omega
 simp [mvL, mvV, this]
theorem wcs_snoc {ws : List (List Nat)} {w : List Nat} : wcs (ws ++ [w]) = wcs ws ++ [[.sl (ws.length + 8) 0 w.length]] := by
 unfold wcs
 rw [yO, List.length_singleton, uN, yF]
 congr 1
 ·refine uA fun j hj => ?_
  rw [yJ] at hj
  simp [yA, vM hj]
 ·simp
theorem wtl_snoc {ws : List (List Nat)} {w : List Nat} : wtl (ws ++ [w]) = wtl ws ++ [.arr 1 (rows w)] := by simp [wtl]
def envO (N : Nat) (f t left : Int) (m k : Nat) : Env := [(18, .i left), (17, .sl 5 0 k), (16, .sl 4 0 m), (13, .sl 3 0 N), (12, .ptr 1 0 0), (4, .ptr 0 0 0), (2, .i t), (1, .i f)]
def patO (N : Nat) (arcs : List Arc) (f t : Int) (rest : List Int) (ws : List (List Nat)) (ns : List Int) : St :=
 ⟨envO N f t (valTo arcs f rest arcs.length) ws.length ns.length, hp4 N arcs rest (begR arcs N) (.arv 1 (wcs ws) :: .arr 1 (ns.map encI) :: .dead :: .dead :: wtl ws), 0⟩
def patI (N : Nat) (arcs : List Arc) (f t : Int) (rest : List Int) (ws : List (List Nat)) (ns : List Int) (way : List Nat) (at_ : Int) : St :=
 ⟨(20, .ptr 6 0 0) :: (19, .sl 7 0 way.length) :: envO N f t (valTo arcs f rest arcs.length) ws.length ns.length, hp4 N arcs rest (begR arcs N) (.arv 1 (wcs ws) :: .arr 1 (ns.map encI) :: .var [.i at_] :: .arr 1 (rows way) :: wtl ws), 0⟩
theorem pos_first {arcs : List Arc} {rest : List Int} {v : Int} {i : Nat} (h : firstI arcs rest v = some i) : ∃ k, posI rest (fromN arcs v arcs.length) = some k ∧ ∃ hk : k < (fromN arcs v arcs.length).length, (fromN arcs v arcs.length)[k] = i := by
 have h1 : (fromN arcs v arcs.length).find? (fun i => decide (0 < rest.getD i 0)) = some i := by
  unfold fromN
  rw [List.find?_filter]
  rw [← h]
  unfold firstI
  congr 1
  funext i
  simp
 have h2 := List.find?_some h1
 cases hp : posI rest (fromN arcs v arcs.length) with
 | none =>
  unfold posI at hp
  rw [vS] at hp
  have := hp i (uX h1)
  rw [this] at h2; simp at h2
 | some k =>
  have hp2 := hp
  unfold posI at hp2
  rw [vR] at hp2
  obtain ⟨hk, g1, g2⟩ := hp2
  refine ⟨k, rfl, hk, ?_⟩
  have : (fromN arcs v arcs.length).find? (fun i => decide (0 < rest.getD i 0)) = some (fromN arcs v arcs.length)[k] := by
   rw [List.find?_eq_some_iff_getElem]
   exact ⟨g1, k, hk, rfl, fun j hj => by simpa using g2 j hj⟩
  rw [this] at h1
  simpa using h1
theorem rows_snoc {w : List Nat} {i : Nat} : rows (w ++ [i]) = rows w ++ [encN i] := by simp [rows]
theorem rows_drop {w : List Nat} {k : Nat} : (rows w).drop k = rows (w.drop k) := by simp [rows, List.map_drop]
theorem rows_take {w : List Nat} {k : Nat} (h : w.length ≤ k) : (rows w).take k = rows w := yL (by rw [rows_len]; exact h)
theorem body22c (N : Nat) (arcs : List Arc) (f t : Int) (rest : List Int) (ws : List (List Nat)) (ns : List Int) (hV : Val N arcs) (hF : Fv N arcs f t rest) (hv : 0 < valTo arcs f rest arcs.length) {RR : St → Prop} {X : Nat → St → Prop}
  (hX4 : ∀ way b y64 y65 y66, att arcs t (N + 1) rest [] f = (rest, some way) → X 4 ⟨(66, y66) :: (65, y65) :: (64, y64) :: (patI N arcs f t rest ws ns way t).e, (patI N arcs f t rest ws ns way t).h, b⟩)
  (way : List Nat) (at_ : Int) (hW : Wv N arcs f rest way at_) (ha : att arcs t (N + 1 - way.length) rest way at_ = att arcs t (N + 1) rest [] f)
  (hX3 : ∀ rest' e h b, att arcs t (N + 1) rest [] f = (rest', none) → leS [] ⟨e, h, b⟩ ⟨envO N f t (valTo arcs f rest arcs.length) ws.length ns.length, hp4 N arcs rest' (begR arcs N) (.arv 1 (wcs ws) :: .arr 1 (ns.map encI) :: .dead :: .dead :: wtl ws), 0⟩ → X 3 ⟨e, h, b⟩) :
  aw cx0 c76l2 (fun s' => ∃ g' : List Nat × Int, ((Wv N arcs f rest g'.1 g'.2 ∧ att arcs t (N + 1 - g'.1.length) rest g'.1 g'.2 = att arcs t (N + 1) rest [] f) ∧ N + 1 - g'.1.length < N + 1 - way.length) ∧ leG cx0.fx s' (patI N arcs f t rest ws ns g'.1 g'.2)) X RR (patI N arcs f t rest ws ns way at_) := by
 have hL := hV.hl
 have hN := hV.hn
 have hwl := hW.len hV
 obtain ⟨m, hm⟩ : ∃ m, N + 1 - way.length = m + 1 := ⟨N - way.length, by omega⟩
 generalize hA : att arcs t (N + 1) rest [] f = A at *
 rw [hm] at ha
 unfold att at ha
 unfold c76l2 patI envO hp4
 by_cases hat : at_ = t
 ·subst hat
  rw [if_pos rfl] at ha
  simp -implicitDefEqProofs only [rX,↓rY,↓reduceIte,Nat.reduceEqDiff,cxN,wtl_len,bne_self_eq_false]
  have := hX4 way (ws.length + 8) (.i at_) (.i at_) (.b false) ha.symm
  unfold patI envO hp4 at this
  exact this
 ·rw [if_neg hat] at ha
  have hne : (at_ != t) = true := by simpa using hat
  obtain ⟨i, hi⟩ := first_ex hF hv hW hat
  rw [hi] at ha
  simp only at ha
  obtain ⟨k, hk, hkl, hki⟩ := pos_first hi
  have hi2 := first_is hi
  have hW2 := hW.half hi
  have hat2 : at_.toNat < (begR arcs N).length := by rw [begR_len]; have := hW.rng; omega
  have hcast : ((at_.toNat : Nat) : Int) = at_ := by have := hW.rng; omega
  simp -implicitDefEqProofs only [rX,↓rY,↓reduceIte,Nat.reduceEqDiff,arrSz,cxN,wtl_len,hne,begR_len]
  refine ⟨hW.rng, by have := hW.rng; omega, ?_⟩
  simp -implicitDefEqProofs only [rX,↓rY,begR_get,hcast]
  have e46 := ok82a (fromN arcs at_ arcs.length) rest (fun j hj => by rw [hF.len]; exact fromN_lt hj) (by have := fromN_len (R := arcs) (v := at_) (k := arcs.length); omega)
  rw [hk] at e46
  refine call_isN [1, 2] [.bro 1 (rows (fromN arcs at_ arcs.length)), .clo 99 [.ptr 0 0 0]] (.i (k : Nat)) (.i (k : Nat)) _ _ (hp4 N arcs rest (begR arcs N) (.arv 1 (wcs ws) :: .arr 1 (ns.map encI) :: .var [.i at_] :: .arr 1 (rows way) :: wtl ws)) e46 ⟨by simp, by simp [cx0, hp4, wtl_len]; try omega⟩ rfl (by simp [lendsOk, lendOk, lends, lend, wkL, wk, wkB, wkR, pos]) (by simp [restH2]) (by simp [restH2, setAll, renB, rens, ren, back, hp4]) rfl trivial ?_
  unfold hp4
  simp -implicitDefEqProofs only [rX,↓rY,rZ,cells?,splice,↓reduceIte,Nat.reduceEqDiff,arrSz,Nat.reduceAdd,reduceCtorEq,freshP,litsP,killE,killB,kill,kills,St.kill,isD,isC,Nat.reduceLT,get8,set8,wtl_len,wtl_out0,wtl_set0,wcs_kill7,begR_len,begR_get,hcast,begR_kill,rows_len,rows_get,encN_0,hki]
  have hg := hW.rng
  refine ⟨hg, by omega, ⟨by omega, by omega⟩, hkl, by omega, hg, by omega, ⟨by omega, by omega⟩, hkl, ⟨by omega, by omega⟩, hi2.1, ?_⟩
  have hgi : gA arcs i = arcs[i]'hi2.1 := getD_nil (a := ⟨0,0,0,0⟩) hi2.1
  have hrow : yE way.length (rows way) ++ [[V.v (.int .i64 (i : Int))]] = rows (way ++ [i]) := by
   rw [rows_take (yG _), rows_snoc]; rfl
  rw [hrow, ← hgi]
  have hlen : (way ++ [i]).length = way.length + 1 := by simp
  generalize hwi : way ++ [i] = w2 at *
  generalize hto : (gA arcs i).to = to2 at *
  have e2 := ok82b N w2 arcs to2 (fun j hj => (hW2.2.1 j hj).1) (by omega)
  have htk : yE (way.length + 1) (rows w2) = rows w2 := rows_take (by omega)
  refine call_isN [0, 6] [.bro 1 (rows w2), .clo 100 [.ptr 0 0 0, .ptr 1 0 0]] (.i (zI (seenI arcs w2 to2))) (.i (zI (seenI arcs w2 to2))) _ _ (.var [.i N, .ro 4 (arcs.map Arc.enc)] :: .var [.sl 2 0 rest.length] :: .arr 1 (rest.map encI) :: .arv 1 (begR arcs N) :: .arv 1 (wcs ws) :: .arr 1 (ns.map encI) :: .var [.i to2] :: .arr 1 (rows w2) :: (wtl ws ++ [.arr 1 [[V.v (.int .i64 (i : Int))]], .dead])) e2 ⟨by simp, by simp [cx0, hp4, wtl_len]; try omega⟩ (by simp [atH, blk, renB, rens, ren]) (by simp [lendsOk, lendOk, lends, lend, wkL, wk, wkB, wkR, pos, blk, htk, rows_len, hlen]) (by simp [atH]) (by simp [atH, setAll, renB, rens, ren, back, wtl_kill, wcs_kill7, killB]) rfl trivial ?_
  cases hs : seenI arcs w2 to2 with
  | some k2 =>
   rw [hs] at ha
   simp only at ha
   obtain ⟨hk2, g1, _⟩ := seen_is hs
   have hd := isW_drop hW2.1 hk2
   rw [g1] at hd
   have hne2 : w2.drop k2 ≠ [] := by
    intro e
    have := congrArg vT e
    rw [yX, yT] at this
    omega
   have hnd : (w2.drop k2).Nodup := vG (vU _ _) (nodup_of_map hW2.2.2)
   have e49 := ok101 rest (w2.drop k2) hF.rng hne2 hnd (fun j hj => by rw [hF.len]; exact (hW2.2.1 j (vV hj)).1) (by have := hF.len; omega) (by simp; omega)
   have hge : decide ((0 : Int) ≤ (k2 : Int)) = true := by simp
   simp -implicitDefEqProofs only [rX,↓rY,ofConst,cells?,splice,↓reduceIte,Nat.reduceEqDiff,arrSz,Nat.reduceAdd,freshP,slcOk,isC,get8,set8,wtl_len,wtl_out,wtl_set,vD,zI,hge]
   refine ⟨by omega, ?_⟩
   have htk2 : yE (way.length + 1 - k2) (vE k2 (rows w2)) = rows (w2.drop k2) := by
    rw [rows_drop]; exact rows_take (by simp; omega)
   refine call_isN [2] [.sl 0 0 rest.length, .bro 1 (rows (w2.drop k2))] (.i (tkN rest (w2.drop k2))) (.i (tkN rest (w2.drop k2))) _ _ (.var [.i N, .ro 4 (arcs.map Arc.enc)] :: .var [.sl 2 0 rest.length] :: .arr 1 ((tkR rest (w2.drop k2)).map encI) :: .arv 1 (begR arcs N) :: .arv 1 (wcs ws) :: .arr 1 (ns.map encI) :: .var [.i to2] :: .arr 1 (rows w2) :: (wtl ws ++ [.arr 1 [[V.v (.int .i64 (i : Int))]], .dead])) e49 ⟨by simp, by simp [cx0, hp4, wtl_len]; try omega⟩ rfl (by simp [lendsOk, lendOk, lends, lend, wkL, wk, wkB, wkR, pos, blk, htk2, rows_len, hlen]; omega) (by simp [takeH]) (by simp [takeH, setAll, renB, rens, ren, back]) rfl trivial ?_
   simp -implicitDefEqProofs only [rX,↓reduceIte,Nat.reduceEqDiff]
   refine hX3 _ _ _ _ ha.symm ?_
   unfold envO hp4
   simp -implicitDefEqProofs only [rX,↓reduceIte,Nat.reduceEqDiff,leE,leH,leB,leV,leVs,keepP,liveP,wfE,wfB,wfV,wfL,leVs,leV,tkR_len,eq_true begR_wf,eq_true leH_wtl,eq_true wcs_wf0,eq_true wtl_wf]
  | none =>
   rw [hs] at ha
   simp only at ha
   have hge : decide ((0 : Int) ≤ -1) = false := rfl
   simp -implicitDefEqProofs only [rX,↓rY,ofConst,cells?,splice,↓reduceIte,Nat.reduceEqDiff,arrSz,Nat.reduceAdd,freshP,slcOk,isC,get8,set8,wtl_len,wtl_out,wtl_set,vD,zI,hge]
   have hW3 : Wv N arcs f rest w2 to2 := ⟨hW2.1, hW2.2.1, hW2.2.2, seen_no hs, by rw [← hto]; exact (val_in hV hi2.1).2⟩
   have g1 : ∀ h, (wcs ws).map (gvL (fun k => k == 6) h) = wcs ws := fun h => wcs_gv (by intro j _; simp)
   have g2 : (wcs ws).map (mvL 6 (ws.length + 10)) = wcs ws := wcs_mv (.inr (by omega))
   have e1 : ((ws.length + 8 == 6) = true) = False := by simp
   have e2 : ((ws.length + 10 == 6) = true) = False := by simp
   have e3 : (ws.length + 8 = ws.length + 10) = False := by simp
   refine ⟨(w2, to2), ⟨⟨hW3, ?_⟩, ?_⟩, _, .give (fun k => k == 6) (by simp) (.mv 6 (ws.length + 10) (.var [.i to2]) (by omega) rfl (by simp only [St.give, gvH, gvH_hi (show 7 ≤ 0 + 1 + 1 + 1 + 1 + 1 + 1 + 1 + 1 by omega), yF, wtl_gv, vC, vJ]; rw [show ws.length + 10 = (ws.length + 2) + 8 from rfl, get8, wtl_out]; rfl) (by simp [cx0, cxN]) (.refl _)), ?_⟩
   ·show att arcs t (N + 1 - w2.length) rest w2 to2 = A
    rw [← ha]; congr 1; omega
   ·show N + 1 - w2.length < N + 1 - way.length
    omega
   ·simp -implicitDefEqProofs only [rX,↓reduceIte,Nat.reduceEqDiff,Nat.reduceAdd,reduceCtorEq,leE,leH,leB,leV,leVs,keepP,liveP,wfE,wfB,wfV,wfL,set8,wtl_set,eq_true leH_wtl,eq_true wcs_wf0,eq_true wtl_wf,gvH_hi (k := 8) (by decide),wtl_gv,wtl_mv,g1,g2,e1,e2,e3,yF,leVs,leV,St.give,gvE,gvV,gvH,gvB,gvL,mvE,mvV,mvL,mvB,begR_gv,begR_mv,eq_true begR_wf,uP,hlen]
end Go.Fx.P.F
namespace Go.Fx.P.F
open Go Go.Fx Go.Proofs
set_option maxRecDepth 20000
def envO0 (N : Nat) (f t left : Int) (m k : Nat) : Env := [(18, .i left), (17, .sl 5 0 k), (16, .nil), (13, .sl 3 0 N), (12, .ptr 1 0 0), (4, .ptr 0 0 0), (2, .i t), (1, .i f)]
def patO0 (N : Nat) (arcs : List Arc) (f t : Int) (rest : List Int) (ws : List (List Nat)) (ns : List Int) : St :=
 ⟨envO0 N f t (valTo arcs f rest arcs.length) ws.length ns.length, hp4 N arcs rest (begR arcs N) (.dead :: .arr 1 (ns.map encI) :: .dead :: .dead :: wtl ws), 0⟩
def patI0 (N : Nat) (arcs : List Arc) (f t : Int) (rest : List Int) (ws : List (List Nat)) (ns : List Int) (way : List Nat) (at_ : Int) : St :=
 ⟨(20, .ptr 6 0 0) :: (19, .sl 7 0 way.length) :: envO0 N f t (valTo arcs f rest arcs.length) ws.length ns.length, hp4 N arcs rest (begR arcs N) (.dead :: .arr 1 (ns.map encI) :: .var [.i at_] :: .arr 1 (rows way) :: wtl ws), 0⟩
theorem body22c0 (N : Nat) (arcs : List Arc) (f t : Int) (rest : List Int) (ws : List (List Nat)) (ns : List Int) (hV : Val N arcs) (hF : Fv N arcs f t rest) (hv : 0 < valTo arcs f rest arcs.length) {RR : St → Prop} {X : Nat → St → Prop}
  (hX4 : ∀ way b y64 y65 y66, att arcs t (N + 1) rest [] f = (rest, some way) → X 4 ⟨(66, y66) :: (65, y65) :: (64, y64) :: (patI0 N arcs f t rest ws ns way t).e, (patI0 N arcs f t rest ws ns way t).h, b⟩)
  (way : List Nat) (at_ : Int) (hW : Wv N arcs f rest way at_) (ha : att arcs t (N + 1 - way.length) rest way at_ = att arcs t (N + 1) rest [] f)
  (hX3 : ∀ rest' e h b, att arcs t (N + 1) rest [] f = (rest', none) → leS [] ⟨e, h, b⟩ ⟨envO0 N f t (valTo arcs f rest arcs.length) ws.length ns.length, hp4 N arcs rest' (begR arcs N) (.dead :: .arr 1 (ns.map encI) :: .dead :: .dead :: wtl ws), 0⟩ → X 3 ⟨e, h, b⟩) :
  aw cx0 c76l2 (fun s' => ∃ g' : List Nat × Int, ((Wv N arcs f rest g'.1 g'.2 ∧ att arcs t (N + 1 - g'.1.length) rest g'.1 g'.2 = att arcs t (N + 1) rest [] f) ∧ N + 1 - g'.1.length < N + 1 - way.length) ∧ leG cx0.fx s' (patI0 N arcs f t rest ws ns g'.1 g'.2)) X RR (patI0 N arcs f t rest ws ns way at_) := by
 have hL := hV.hl
 have hN := hV.hn
 have hwl := hW.len hV
 obtain ⟨m, hm⟩ : ∃ m, N + 1 - way.length = m + 1 := ⟨N - way.length, by omega⟩
 generalize hA : att arcs t (N + 1) rest [] f = A at *
 rw [hm] at ha
 unfold att at ha
 unfold c76l2 patI0 envO0 hp4
 by_cases hat : at_ = t
 ·subst hat
  rw [if_pos rfl] at ha
  simp -implicitDefEqProofs only [rX,↓rY,↓reduceIte,Nat.reduceEqDiff,cxN,wtl_len,bne_self_eq_false]
  have := hX4 way (ws.length + 8) (.i at_) (.i at_) (.b false) ha.symm
  unfold patI0 envO0 hp4 at this
  exact this
 ·rw [if_neg hat] at ha
  have hne : (at_ != t) = true := by simpa using hat
  obtain ⟨i, hi⟩ := first_ex hF hv hW hat
  rw [hi] at ha
  simp only at ha
  obtain ⟨k, hk, hkl, hki⟩ := pos_first hi
  have hi2 := first_is hi
  have hW2 := hW.half hi
  have hat2 : at_.toNat < (begR arcs N).length := by rw [begR_len]; have := hW.rng; omega
  have hcast : ((at_.toNat : Nat) : Int) = at_ := by have := hW.rng; omega
  simp -implicitDefEqProofs only [rX,↓rY,↓reduceIte,Nat.reduceEqDiff,arrSz,cxN,wtl_len,hne,begR_len]
  refine ⟨hW.rng, by have := hW.rng; omega, ?_⟩
  simp -implicitDefEqProofs only [rX,↓rY,begR_get,hcast]
  have e46 := ok82a (fromN arcs at_ arcs.length) rest (fun j hj => by rw [hF.len]; exact fromN_lt hj) (by have := fromN_len (R := arcs) (v := at_) (k := arcs.length); omega)
  rw [hk] at e46
  refine call_isN [1, 2] [.bro 1 (rows (fromN arcs at_ arcs.length)), .clo 99 [.ptr 0 0 0]] (.i (k : Nat)) (.i (k : Nat)) _ _ (hp4 N arcs rest (begR arcs N) (.dead :: .arr 1 (ns.map encI) :: .var [.i at_] :: .arr 1 (rows way) :: wtl ws)) e46 ⟨by simp, by simp [cx0, hp4, wtl_len]; try omega⟩ rfl (by simp [lendsOk, lendOk, lends, lend, wkL, wk, wkB, wkR, pos]) (by simp [restH2]) (by simp [restH2, setAll, renB, rens, ren, back, hp4]) rfl trivial ?_
  unfold hp4
  simp -implicitDefEqProofs only [rX,↓rY,rZ,cells?,splice,↓reduceIte,Nat.reduceEqDiff,arrSz,Nat.reduceAdd,reduceCtorEq,freshP,litsP,killE,killB,kill,kills,St.kill,isD,isC,Nat.reduceLT,get8,set8,wtl_len,wtl_out0,wtl_set0,begR_len,begR_get,hcast,begR_kill,rows_len,rows_get,encN_0,hki]
  have hg := hW.rng
  refine ⟨hg, by omega, ⟨by omega, by omega⟩, hkl, by omega, hg, by omega, ⟨by omega, by omega⟩, hkl, ⟨by omega, by omega⟩, hi2.1, ?_⟩
  have hgi : gA arcs i = arcs[i]'hi2.1 := getD_nil (a := ⟨0,0,0,0⟩) hi2.1
  have hrow : yE way.length (rows way) ++ [[V.v (.int .i64 (i : Int))]] = rows (way ++ [i]) := by
   rw [rows_take (yG _), rows_snoc]; rfl
  rw [hrow, ← hgi]
  have hlen : (way ++ [i]).length = way.length + 1 := by simp
  generalize hwi : way ++ [i] = w2 at *
  generalize hto : (gA arcs i).to = to2 at *
  have e2 := ok82b N w2 arcs to2 (fun j hj => (hW2.2.1 j hj).1) (by omega)
  have htk : yE (way.length + 1) (rows w2) = rows w2 := rows_take (by omega)
  refine call_isN [0, 6] [.bro 1 (rows w2), .clo 100 [.ptr 0 0 0, .ptr 1 0 0]] (.i (zI (seenI arcs w2 to2))) (.i (zI (seenI arcs w2 to2))) _ _ (.var [.i N, .ro 4 (arcs.map Arc.enc)] :: .var [.sl 2 0 rest.length] :: .arr 1 (rest.map encI) :: .arv 1 (begR arcs N) :: .dead :: .arr 1 (ns.map encI) :: .var [.i to2] :: .arr 1 (rows w2) :: (wtl ws ++ [.arr 1 [[V.v (.int .i64 (i : Int))]], .dead])) e2 ⟨by simp, by simp [cx0, hp4, wtl_len]; try omega⟩ (by simp [atH, blk, renB, rens, ren]) (by simp [lendsOk, lendOk, lends, lend, wkL, wk, wkB, wkR, pos, blk, htk, rows_len, hlen]) (by simp [atH]) (by simp [atH, setAll, renB, rens, ren, back, wtl_kill, wcs_kill7, killB]) rfl trivial ?_
  cases hs : seenI arcs w2 to2 with
  | some k2 =>
   rw [hs] at ha
   simp only at ha
   obtain ⟨hk2, g1, _⟩ := seen_is hs
   have hd := isW_drop hW2.1 hk2
   rw [g1] at hd
   have hne2 : w2.drop k2 ≠ [] := by
    intro e
    have := congrArg vT e
    rw [yX, yT] at this
    omega
   have hnd : (w2.drop k2).Nodup := vG (vU _ _) (nodup_of_map hW2.2.2)
   have e49 := ok101 rest (w2.drop k2) hF.rng hne2 hnd (fun j hj => by rw [hF.len]; exact (hW2.2.1 j (vV hj)).1) (by have := hF.len; omega) (by simp; omega)
   have hge : decide ((0 : Int) ≤ (k2 : Int)) = true := by simp
   simp -implicitDefEqProofs only [rX,↓rY,ofConst,cells?,splice,↓reduceIte,Nat.reduceEqDiff,arrSz,Nat.reduceAdd,freshP,slcOk,isC,get8,set8,wtl_len,wtl_out,wtl_set,vD,zI,hge]
   refine ⟨by omega, ?_⟩
   have htk2 : yE (way.length + 1 - k2) (vE k2 (rows w2)) = rows (w2.drop k2) := by
    rw [rows_drop]; exact rows_take (by simp; omega)
   refine call_isN [2] [.sl 0 0 rest.length, .bro 1 (rows (w2.drop k2))] (.i (tkN rest (w2.drop k2))) (.i (tkN rest (w2.drop k2))) _ _ (.var [.i N, .ro 4 (arcs.map Arc.enc)] :: .var [.sl 2 0 rest.length] :: .arr 1 ((tkR rest (w2.drop k2)).map encI) :: .arv 1 (begR arcs N) :: .dead :: .arr 1 (ns.map encI) :: .var [.i to2] :: .arr 1 (rows w2) :: (wtl ws ++ [.arr 1 [[V.v (.int .i64 (i : Int))]], .dead])) e49 ⟨by simp, by simp [cx0, hp4, wtl_len]; try omega⟩ rfl (by simp [lendsOk, lendOk, lends, lend, wkL, wk, wkB, wkR, pos, blk, htk2, rows_len, hlen]; omega) (by simp [takeH]) (by simp [takeH, setAll, renB, rens, ren, back]) rfl trivial ?_
   simp -implicitDefEqProofs only [rX,↓reduceIte,Nat.reduceEqDiff]
   refine hX3 _ _ _ _ ha.symm ?_
   unfold envO0 hp4
   simp -implicitDefEqProofs only [rX,↓reduceIte,Nat.reduceEqDiff,leE,leH,leB,leV,leVs,keepP,liveP,wfE,wfB,wfV,wfL,leVs,leV,tkR_len,eq_true begR_wf,eq_true leH_wtl,eq_true wcs_wf0,eq_true wtl_wf]
  | none =>
   rw [hs] at ha
   simp only at ha
   have hge : decide ((0 : Int) ≤ -1) = false := rfl
   simp -implicitDefEqProofs only [rX,↓rY,ofConst,cells?,splice,↓reduceIte,Nat.reduceEqDiff,arrSz,Nat.reduceAdd,freshP,slcOk,isC,get8,set8,wtl_len,wtl_out,wtl_set,vD,zI,hge]
   have hW3 : Wv N arcs f rest w2 to2 := ⟨hW2.1, hW2.2.1, hW2.2.2, seen_no hs, by rw [← hto]; exact (val_in hV hi2.1).2⟩
   have g1 : ∀ h, (wcs ws).map (gvL (fun k => k == 6) h) = wcs ws := fun h => wcs_gv (by intro j _; simp)
   have g2 : (wcs ws).map (mvL 6 (ws.length + 10)) = wcs ws := wcs_mv (.inr (by omega))
   have e1 : ((ws.length + 8 == 6) = true) = False := by simp
   have e2 : ((ws.length + 10 == 6) = true) = False := by simp
   have e3 : (ws.length + 8 = ws.length + 10) = False := by simp
   refine ⟨(w2, to2), ⟨⟨hW3, ?_⟩, ?_⟩, _, .give (fun k => k == 6) (by simp) (.mv 6 (ws.length + 10) (.var [.i to2]) (by omega) rfl (by simp only [St.give, gvH, gvH_hi (show 7 ≤ 0 + 1 + 1 + 1 + 1 + 1 + 1 + 1 + 1 by omega), yF, wtl_gv, vC, vJ]; rw [show ws.length + 10 = (ws.length + 2) + 8 from rfl, get8, wtl_out]; rfl) (by simp [cx0, cxN]) (.refl _)), ?_⟩
   ·show att arcs t (N + 1 - w2.length) rest w2 to2 = A
    rw [← ha]; congr 1; omega
   ·show N + 1 - w2.length < N + 1 - way.length
    omega
   ·simp -implicitDefEqProofs only [rX,↓reduceIte,Nat.reduceEqDiff,Nat.reduceAdd,reduceCtorEq,leE,leH,leB,leV,leVs,keepP,liveP,wfE,wfB,wfV,wfL,set8,wtl_set,eq_true leH_wtl,eq_true wcs_wf0,eq_true wtl_wf,gvH_hi (k := 8) (by decide),wtl_gv,wtl_mv,e1,e2,e3,yF,leVs,leV,St.give,gvE,gvV,gvH,gvB,gvL,mvE,mvV,mvL,mvB,begR_gv,begR_mv,eq_true begR_wf,uP,hlen]
end Go.Fx.P.F
namespace Go.Fx.P.F
open Go Go.Fx Go.Proofs
set_option maxRecDepth 20000
theorem wrows_len {ws : List (List Nat)} : (wrows ws).length = ws.length := by simp [wrows]
theorem wrows_snoc {ws : List (List Nat)} {w : List Nat} : wrows (ws ++ [w]) = wrows ws ++ [[.ro 1 (rows w)]] := by simp [wrows]
theorem wcs_kill4 {ws : List (List Nat)} : (wcs ws).map (kills [4]) = wcs ws := wcs_kill (by simp)
theorem wcs_kill5 {ws : List (List Nat)} : (wcs ws).map (kills [5]) = wcs ws := wcs_kill (by simp)
theorem leH_wtl2 {ws : List (List Nat)} {l m : List Blk} (h : leH l m) : leH (wtl ws ++ l) (wtl ws ++ m) := by
 induction ws with
 | nil => exact h
 | cons w r ih => exact ⟨rfl, ih⟩
theorem wfB_wtl2 {ws : List (List Nat)} {q l : List Blk} (h : wfB q l) : wfB q (wtl ws ++ l) := by
 induction ws with
 | nil => exact h
 | cons w r ih => exact ih
theorem wcs_wf7 {ws : List (List Nat)} {a b c d e f g : Blk} {els : List (List V)} {n : Nat} {l : List Blk} : wfL (a :: b :: c :: d :: e :: f :: g :: .arr 1 els :: (wtl ws ++ l)) (wcs ws ++ [[V.sl 7 0 n]]).flatten := by
 refine wfL_all fun x hx => ?_
 rw [List.flatten_append, uD] at hx
 rcases hx with hx | hx
 ·have : wfL (a :: b :: c :: d :: e :: f :: g :: .arr 1 els :: (wtl ws ++ l)) (wcs ws).flatten := wcs_wf
  exact wfL_mem this hx
 ·simp only [List.flatten_cons, List.flatten_nil, yK, vF] at hx
  subst hx
  trivial
theorem litvP_c {sz i : Nat} {acc : List (List V)} {x : V} {r : List (Nat × V)} {K : List (List V) → Prop} : litvP sz acc ((i, x) :: r) K = optK (cells? x) fun cs => ((cs.length = sz ∧ i < acc.length) ∧ cs.all isC = true) ∧ litvP sz (acc.set i cs) r K := rfl
theorem litvP_n {sz : Nat} {acc : List (List V)} {K : List (List V) → Prop} : litvP sz acc [] K = K acc := rfl
theorem viewVK_s {h : List Blk} {k i n : Nat} {K : Nat → List (List V) → Prop} : viewVK h (.sl k i n) K = viewVB (blk h k) i n K := rfl
theorem viewVB_w {sz i n : Nat} {els : List (List V)} {K : Nat → List (List V) → Prop} : viewVB (.arv sz els) i n K = (i + n ≤ els.length ∧ K sz ((els.drop i).take n)) := rfl
theorem appVP_s {fx bn : List Nat} {id sz bytes k i n : Nat} {s : St} {new : List (List V)} {K : V → St → Prop} : appVP fx bn id sz bytes s (.sl k i n) new K = appVB fx bn k i n sz bytes s new (blk s.h k) K := rfl
theorem appVB_w {fx bn : List Nat} {k i n sz sz' bytes : Nat} {e : Env} {h : List Blk} {b : Nat} {new els : List (List V)} {K : V → St → Prop} : appVB fx bn k i n sz bytes ⟨e, h, b⟩ new (.arv sz' els) K =
  ((sz' = sz ∧ i + n ≤ els.length ∧ (n + new.length) * bytes ≤ 140737488355328) ∧ (k ∉ fx ∧ k ∉ bn) ∧ K (.sl k 0 (n + new.length)) ⟨killE [k] e, (h.map (killB [k])).set k (.arv sz (((els.drop i).take n ++ new).map (kills [k]))), b⟩) := rfl
structure InP (N : Nat) (arcs : List Arc) (f t : Int) (wsT : List (List Nat)) (nsT : List Int) (rest : List Int) (ws : List (List Nat)) (ns : List Int) : Prop where
 fv : Fv N arcs f t rest
 run : ∃ ws' ns', PR N arcs f t rest ws' ns' ∧ wsT = ws ++ ws' ∧ nsT = ns ++ ns'
 len : ws.length + cnt rest arcs.length ≤ arcs.length ∧ ns.length = ws.length
theorem val_in2 {N : Nat} {arcs : List Arc} {f t : Int} {rest : List Int} (hF : Fv N arcs f t rest) : -((arcs.length : Int) * 1073741824) ≤ valTo arcs f rest arcs.length ∧ valTo arcs f rest arcs.length ≤ (arcs.length : Int) * 1073741824 := by
 refine valTo_bound arcs f rest (fun x hx => ?_) _
 obtain ⟨i, hi, rfl⟩ := yN hx
 have := hF.rng i
 rw [yA, yB hi] at this
 exact this
def patX (N : Nat) (arcs : List Arc) (f t : Int) (rest : List Int) (ws : List (List Nat)) (ns : List Int) : St := if ws = [] then patO0 N arcs f t rest ws ns else patO N arcs f t rest ws ns
theorem body22b (N : Nat) (arcs : List Arc) (f t : Int) (wsT : List (List Nat)) (nsT : List Int) (hV : Val N arcs) (hf : 0 ≤ f ∧ f < N) (hft : f ≠ t) {RR : St → Prop} {X : Nat → St → Prop}
  (hX : ∀ rest b y z, wsT ≠ [] → X 2 ⟨(62, y) :: (61, z) :: (patO N arcs f t rest wsT nsT).e, (patO N arcs f t rest wsT nsT).h, b⟩)
  (g : List Int × List (List Nat) × List Int) (hI : InP N arcs f t wsT nsT g.1 g.2.1 g.2.2) (hw : g.2.1 ≠ []) :
  aw cx0 c76l1 (fun s' => ∃ g' : List Int × List (List Nat) × List Int, (InP N arcs f t wsT nsT g'.1 g'.2.1 g'.2.2 ∧ cnt g'.1 arcs.length < cnt g.1 arcs.length) ∧ leG cx0.fx s' (patX N arcs f t g'.1 g'.2.1 g'.2.2)) X RR (patO N arcs f t g.1 g.2.1 g.2.2) := by
 obtain ⟨rest, ws, ns⟩ := g
 obtain ⟨hF, ⟨ws', ns', hR, hws, hns⟩, hln⟩ := hI
 simp only at hF hR hws hns hln hw
 have hL := hV.hl
 have hN := hV.hn
 unfold c76l1 patO envO hp4
 by_cases hv : 0 < valTo arcs f rest arcs.length
 ·have hvt : decide (0 < valTo arcs f rest arcs.length) = true := decide_eq_true hv
  simp -implicitDefEqProofs only [rX,↓rY,ofConst,cells?,splice,↓reduceIte,Nat.reduceEqDiff,freshP,isC,cxN,get8,set8,wtl_len,wtl_out0,wtl_set0,hvt]
  refine loopP_back (fun g : List Nat × Int => patI N arcs f t rest ws ns g.1 g.2) (fun g => Wv N arcs f rest g.1 g.2 ∧ att arcs t (N + 1 - g.1.length) rest g.1 g.2 = att arcs t (N + 1) rest [] f) (fun g => N + 1 - g.1.length) ([], f) ⟨Wv.begin hf rest, rfl⟩ ?_ (fun g hg => body22c N arcs f t rest ws ns hV hF hv ?_ g.1 g.2 hg.1 hg.2 ?_)
  ·refine ⟨_, .mv 6 (ws.length + 8) (.var [.i f]) (by omega) rfl (by rw [get8, wtl_out0]; rfl) (by simp [cx0, cxN]) (.virtAt 7 1 (by decide) rfl (.nilE 19 7 rfl (.refl _))), ?_⟩
   have g2 : (wcs ws).map (mvL 6 (ws.length + 8)) = wcs ws := wcs_mv (.inr (by omega))
   unfold patI envO hp4
   simp -implicitDefEqProofs only [rX,↓reduceIte,Nat.reduceEqDiff,reduceCtorEq,leE,leH,leB,leV,leVs,keepP,liveP,wfE,wfB,wfV,wfL,set8,wtl_set0,leVs,leV,eq_true begR_wf,rows,mvE,mvV,mvL,mvB,begR_mv,g2,wtl_mv,yF,eq_true leH_wtl,eq_true wcs_wf0,eq_true wtl_wf]
  ·intro way b y64 y65 y66 ha
   have hw := att_ok hV hft hF hv (N + 1) [] f (Wv.begin hf rest) (by simp)
   rw [ha] at hw
   obtain ⟨h2, h3, h4, h5⟩ : way ≠ [] ∧ isW arcs f way t ∧ way.Nodup ∧ ∀ j ∈ way, j < arcs.length ∧ 0 < rest.getD j 0 := by
    rcases hw with ⟨w, h1, h2, h3, h4, h5⟩ | ⟨rest', h1, _⟩
    ·simp only [yU, uB, true_and] at h1
     subst h1
     exact ⟨h2, h3, h4, h5⟩
    ·simp at h1
   have hto := take_ok hF h3 h2 h4 h5
   have hFv := take_Fv hF h3 h2 h4 h5 (.inr ⟨rfl, rfl⟩)
   obtain ⟨ws2, ns2, rfl, rfl, hR2⟩ := hR.way hv ha
   have hwl : way.length ≤ arcs.length := by
    have := nodup_le (l := way.map Int.ofNat) arcs.length (by
     rw [vA, vQ]
     exact uQ (fun h e => h (uR e)) (vA.1 h4)) (by
     intro v hv
     rw [yI] at hv
     obtain ⟨i, hi, rfl⟩ := hv
     have := (h5 i hi).1
     simp only [uS]; omega)
    simpa using this
   unfold patI envO hp4
   simp only [↓reduceIte]
   simp -implicitDefEqProofs only [rX,↓rY,rdK,cells?,↓reduceIte,Nat.reduceEqDiff,reduceCtorEq,freshP,killE,killB,kill,kills,St.kill,isC,Nat.reduceLT,get8,set8,wtl_len,wtl_out0,wtl_set0,wcs_len,wtl_kill,wcs_kill4,litvP_c,litvP_n,↓viewVK_s,↓viewVB_w,↓appVP_s,↓appVB_w,List.zip_cons_cons,List.zip_nil_left,begR_kill,yF]
   have htw : yE way.length (rows way) = rows way := rows_take (yG _)
   have htws : yE ws.length (wcs ws) = wcs ws := yL (by rw [wcs_len]; exact yG _)
   rw [htws, wcs_kill4]
   have hcl : 0 < arcs.length := by
    have := h5
    cases way with
    | nil => exact absurd rfl h2
    | cons i w => have := (h5 i yH).1; omega
   refine ⟨by simp, by omega, ?_⟩
   have e49 := ok101 rest way hF.rng h2 h4 (fun j hj => by rw [hF.len]; exact (h5 j hj).1) (by have := hF.len; omega) (by omega)
   refine call_isN [2] [.sl 0 0 rest.length, .bro 1 (rows way)] (.i (tkN rest way)) (.i (tkN rest way)) _ _ (.var [.i N, .ro 4 (arcs.map Arc.enc)] :: .var [.sl 2 0 rest.length] :: .arr 1 ((tkR rest way).map encI) :: .arv 1 (begR arcs N) :: .arv 1 (wcs ws ++ [[.sl 7 0 way.length]]) :: .arr 1 (ns.map encI) :: .var [.i t] :: .arr 1 (rows way) :: (wtl ws ++ [.arv 1 [[.sl 7 0 way.length]], .dead, .dead, .dead])) e49 ⟨by simp, by simp [cx0]⟩ rfl (by simp [lendsOk, lendOk, lends, lend, wkL, wk, wkB, wkR, pos, blk, htw, rows_len]) (by simp [takeH]) (by simp [takeH, setAll, renB, rens, ren, back]) rfl trivial ?_
   simp -implicitDefEqProofs only [rX,↓rY,ofConst,cells?,↓reduceIte,Nat.reduceEqDiff,arrSz,Nat.reduceAdd,reduceCtorEq,freshP,litsP,killE,killB,kill,kills,St.kill,isD,Nat.reduceLT,get8,set8,wtl_len,wtl_out,wtl_set,begR_kill]
   have hvb := val_in2 hF
   have hvb2 := val_in2 hFv
   have hval := hto.2.2.2.2 f
   rw [if_pos rfl, if_neg (fun e => hft e.symm)] at hval
   have e0 : yE ns.length (ns.map encI) ++ [[V.v (.int .i64 (tkN rest way))]] = (ns ++ [tkN rest way]).map encI := by
    rw [yL (by simp), yF]; rfl
   have hc : (((ns.length + 1 : Nat) : Int) - 1).toNat = ns.length := by omega
   have hg : ∀ h : ns.length < ((ns ++ [tkN rest way]).map encI).length, ((ns ++ [tkN rest way]).map encI)[ns.length] = encI (tkN rest way) := by
    intro h; simp
   refine ⟨by omega, fun _ => ⟨⟨by simp only [lo]; omega, by simp only [hi]; omega⟩, ⟨by omega, by omega⟩, by simp, ?_⟩⟩
   simp only [e0, hc, hg]
   simp -implicitDefEqProofs only [rX,↓rY,rZ]
   refine ⟨⟨by simp only [lo]; omega, by simp only [hi]; omega⟩, (tkR rest way, ws ++ [way], ns ++ [tkN rest way]), ⟨⟨hFv, ⟨ws2, ns2, hR2, by rw [hws]; simp, by rw [hns]; simp⟩, ?_⟩, hto.2.2.2.1⟩, _, .le (p := ⟨[(18, .i (valTo arcs f (tkR rest way) arcs.length)), (17, .sl 5 0 (ns.length + 1)), (16, .sl 4 0 (ws.length + 1)), (13, .sl 3 0 N), (12, .ptr 1 0 0), (4, .ptr 0 0 0), (2, .i t), (1, .i f)], hp4 N arcs (tkR rest way) (begR arcs N) (.arv 1 (wcs ws ++ [[.sl 7 0 way.length]]) :: .arr 1 ((ns ++ [tkN rest way]).map encI) :: .dead :: .arr 1 (rows way) :: (wtl ws ++ [.dead])), 0⟩) ?_ (.mv (ws.length + 8) 7 (.arr 1 (rows way)) (by omega) (by simp only [hp4]; rw [get8, wtl_out0]; rfl) rfl (by simp [cx0, cxN]) (.refl _)), ?_⟩
   rotate_left
   ·unfold hp4
    simp -implicitDefEqProofs only [rX,↓reduceIte,Nat.reduceEqDiff,leE,leH,leB,leV,leVs,keepP,liveP,wfE,wfB,wfV,wfL,killB,kill,kills,St.kill,wtl_kill,leVs,leV,hval,tkR_len,yF,wcs_kill5,kills,kill,Int.add_zero,eq_true begR_wf,eq_true wcs_wf7]
    refine ⟨leH_wtl2 (by simp [leH, leB]), wfB_wtl2 trivial⟩
   ·have g2 : (wcs ws).map (mvL (ws.length + 8) 7) = wcs ws := wcs_mv (.inl (by omega))
    have ex : (ws ++ [way] = []) = False := by simp
    simp only [patX, ex, if_false]
    unfold patO envO hp4
    simp -implicitDefEqProofs only [rX,↓reduceIte,Nat.reduceEqDiff,reduceCtorEq,leE,leH,leB,leV,leVs,keepP,liveP,wfE,wfB,wfV,wfL,set8,wtl_set0,leVs,leV,mvE,mvV,mvL,mvB,begR_mv,g2,wtl_mv,yF,wcs_snoc,wtl_snoc]
    rw [← wtl_snoc, ← wcs_snoc]
    exact ⟨leH_wtl0, begR_wf, wcs_wf0, wtl_wf⟩
   have := hto.2.2.2.1
   show (ws ++ [way]).length + cnt (tkR rest way) arcs.length ≤ arcs.length ∧ (ns ++ [tkN rest way]).length = (ws ++ [way]).length
   simp; omega
  ·intro rest' e h b ha hle
   simp only [↓reduceIte]
   have hw := att_ok hV hft hF hv (N + 1) [] f (Wv.begin hf rest) (by simp)
   rw [ha] at hw
   rcases hw with ⟨w, h1, _⟩ | ⟨rest2, h1, h2, h3, h4⟩
   ·simp at h1
   simp only [yU, and_true] at h1
   subst h1
   refine ⟨(rest', ws, ns), ⟨⟨h2, ⟨ws', ns', hR.circ hv ha (by rw [h3]; exact hv), hws, hns⟩, ?_⟩, h4⟩, ?_⟩
   ·show ws.length + cnt rest' arcs.length ≤ arcs.length ∧ ns.length = ws.length
    omega
   ·rw [← h3] at hle
    refine ⟨_, .refl _, ?_⟩
    simp only [patX, if_neg hw]
    exact hle
 ·have hvf : decide (0 < valTo arcs f rest arcs.length) = false := decide_eq_false hv
  simp -implicitDefEqProofs only [rX,↓rY,ofConst,cells?,splice,↓reduceIte,Nat.reduceEqDiff,freshP,isC,cxN,get8,set8,wtl_len,wtl_out0,wtl_set0,hvf]
  cases hR with
  | step h _ _ => exact absurd h hv
  | stop h =>
   rw [yK] at hws hns
   subst hws hns
   exact hX rest _ _ _ hw
end Go.Fx.P.F
namespace Go.Fx.P.F
open Go Go.Fx Go.Proofs
set_option maxRecDepth 20000
theorem appVP_n {fx bn : List Nat} {id sz bytes : Nat} {e : Env} {h : List Blk} {b : Nat} {new : List (List V)} {K : V → St → Prop} : appVP fx bn id sz bytes ⟨e, h, b⟩ .nil new K = (new.length * bytes ≤ 140737488355328 ∧ freshP h id ∧ K (.sl id 0 new.length) ⟨e, h.set id (.arv sz new), b⟩) := rfl
theorem body22b0 (N : Nat) (arcs : List Arc) (f t : Int) (wsT : List (List Nat)) (nsT : List Int) (hV : Val N arcs) (hf : 0 ≤ f ∧ f < N) (hft : f ≠ t) {RR : St → Prop} {X : Nat → St → Prop}
  (hX : ∀ rest b y z, wsT = [] → X 2 ⟨(62, y) :: (61, z) :: (patO0 N arcs f t rest wsT nsT).e, (patO0 N arcs f t rest wsT nsT).h, b⟩)
  (rest : List Int) (ws : List (List Nat)) (ns : List Int) (hw0 : ws = []) (hI : InP N arcs f t wsT nsT rest ws ns) :
  aw cx0 c76l1 (fun s' => ∃ g' : List Int × List (List Nat) × List Int, (InP N arcs f t wsT nsT g'.1 g'.2.1 g'.2.2 ∧ cnt g'.1 arcs.length < cnt rest arcs.length) ∧ leG cx0.fx s' (patX N arcs f t g'.1 g'.2.1 g'.2.2)) X RR (patO0 N arcs f t rest ws ns) := by
 obtain ⟨hF, ⟨ws', ns', hR, hws, hns⟩, hln⟩ := hI
 have hL := hV.hl
 have hN := hV.hn
 unfold c76l1 patO0 envO0 hp4
 by_cases hv : 0 < valTo arcs f rest arcs.length
 ·have hvt : decide (0 < valTo arcs f rest arcs.length) = true := decide_eq_true hv
  simp -implicitDefEqProofs only [rX,↓rY,ofConst,cells?,splice,↓reduceIte,Nat.reduceEqDiff,freshP,isC,cxN,get8,set8,wtl_len,wtl_out0,wtl_set0,hvt]
  refine loopP_back (fun g : List Nat × Int => patI0 N arcs f t rest ws ns g.1 g.2) (fun g => Wv N arcs f rest g.1 g.2 ∧ att arcs t (N + 1 - g.1.length) rest g.1 g.2 = att arcs t (N + 1) rest [] f) (fun g => N + 1 - g.1.length) ([], f) ⟨Wv.begin hf rest, rfl⟩ ?_ (fun g hg => body22c0 N arcs f t rest ws ns hV hF hv ?_ g.1 g.2 hg.1 hg.2 ?_)
  ·refine ⟨_, .mv 6 (ws.length + 8) (.var [.i f]) (by omega) rfl (by rw [get8, wtl_out0]; rfl) (by simp [cx0, cxN]) (.virtAt 7 1 (by decide) rfl (.nilE 19 7 rfl (.refl _))), ?_⟩
   have g2 : (wcs ws).map (mvL 6 (ws.length + 8)) = wcs ws := wcs_mv (.inr (by omega))
   unfold patI0 envO0 hp4
   simp -implicitDefEqProofs only [rX,↓reduceIte,Nat.reduceEqDiff,reduceCtorEq,leE,leH,leB,leV,leVs,keepP,liveP,wfE,wfB,wfV,wfL,set8,wtl_set0,leVs,leV,eq_true begR_wf,rows,mvE,mvV,mvL,mvB,begR_mv,wtl_mv,yF,eq_true leH_wtl,eq_true wcs_wf0,eq_true wtl_wf]
  ·intro way b y64 y65 y66 ha
   have hw := att_ok hV hft hF hv (N + 1) [] f (Wv.begin hf rest) (by simp)
   rw [ha] at hw
   obtain ⟨h2, h3, h4, h5⟩ : way ≠ [] ∧ isW arcs f way t ∧ way.Nodup ∧ ∀ j ∈ way, j < arcs.length ∧ 0 < rest.getD j 0 := by
    rcases hw with ⟨w, h1, h2, h3, h4, h5⟩ | ⟨rest', h1, _⟩
    ·simp only [yU, uB, true_and] at h1
     subst h1
     exact ⟨h2, h3, h4, h5⟩
    ·simp at h1
   have hto := take_ok hF h3 h2 h4 h5
   have hFv := take_Fv hF h3 h2 h4 h5 (.inr ⟨rfl, rfl⟩)
   obtain ⟨ws2, ns2, rfl, rfl, hR2⟩ := hR.way hv ha
   have hwl : way.length ≤ arcs.length := by
    have := nodup_le (l := way.map Int.ofNat) arcs.length (by
     rw [vA, vQ]
     exact uQ (fun h e => h (uR e)) (vA.1 h4)) (by
     intro v hv
     rw [yI] at hv
     obtain ⟨i, hi, rfl⟩ := hv
     have := (h5 i hi).1
     simp only [uS]; omega)
    simpa using this
   unfold patI0 envO0 hp4
   simp only [↓reduceIte]
   simp -implicitDefEqProofs only [rX,↓rY,rdK,cells?,↓reduceIte,Nat.reduceEqDiff,freshP,isC,Nat.reduceLT,get8,set8,wtl_len,wtl_out,wtl_out0,wtl_set,wtl_set0,litvP_c,litvP_n,↓viewVK_s,↓viewVB_w,↓appVP_n,List.zip_cons_cons,List.zip_nil_left]
   have htw : yE way.length (rows way) = rows way := rows_take (yG _)
   have hcl : 0 < arcs.length := by
    have := h5
    cases way with
    | nil => exact absurd rfl h2
    | cons i w => have := (h5 i yH).1; omega
   refine ⟨by simp, by omega, ?_⟩
   have e49 := ok101 rest way hF.rng h2 h4 (fun j hj => by rw [hF.len]; exact (h5 j hj).1) (by have := hF.len; omega) (by omega)
   refine call_isN [2] [.sl 0 0 rest.length, .bro 1 (rows way)] (.i (tkN rest way)) (.i (tkN rest way)) _ _ (.var [.i N, .ro 4 (arcs.map Arc.enc)] :: .var [.sl 2 0 rest.length] :: .arr 1 ((tkR rest way).map encI) :: .arv 1 (begR arcs N) :: .dead :: .arr 1 (ns.map encI) :: .var [.i t] :: .arr 1 (rows way) :: (wtl ws ++ [.arv 1 [[.sl 7 0 way.length]], .arv 1 [[.sl 7 0 way.length]], .dead, .dead])) e49 ⟨by simp, by simp [cx0]⟩ rfl (by simp [lendsOk, lendOk, lends, lend, wkL, wk, wkB, wkR, pos, blk, htw, rows_len]) (by simp [takeH]) (by simp [takeH, setAll, renB, rens, ren, back]) rfl trivial ?_
   simp -implicitDefEqProofs only [rX,↓rY,ofConst,cells?,↓reduceIte,Nat.reduceEqDiff,arrSz,Nat.reduceAdd,reduceCtorEq,freshP,litsP,killE,killB,kill,kills,St.kill,isD,Nat.reduceLT,get8,set8,wtl_len,wtl_out,wtl_set,begR_kill]
   have hvb := val_in2 hF
   have hvb2 := val_in2 hFv
   have hval := hto.2.2.2.2 f
   rw [if_pos rfl, if_neg (fun e => hft e.symm)] at hval
   have e0 : yE ns.length (ns.map encI) ++ [[V.v (.int .i64 (tkN rest way))]] = (ns ++ [tkN rest way]).map encI := by
    rw [yL (by simp), yF]; rfl
   have hc : (((ns.length + 1 : Nat) : Int) - 1).toNat = ns.length := by omega
   have hg : ∀ h : ns.length < ((ns ++ [tkN rest way]).map encI).length, ((ns ++ [tkN rest way]).map encI)[ns.length] = encI (tkN rest way) := by
    intro h; simp
   refine ⟨by omega, fun _ => ⟨⟨by simp only [lo]; omega, by simp only [hi]; omega⟩, ⟨by omega, by omega⟩, by simp, ?_⟩⟩
   simp only [e0, hc, hg]
   simp -implicitDefEqProofs only [rX,↓rY,rZ]
   refine ⟨⟨by simp only [lo]; omega, by simp only [hi]; omega⟩, (tkR rest way, ws ++ [way], ns ++ [tkN rest way]), ⟨⟨hFv, ⟨ws2, ns2, hR2, by rw [hws]; simp, by rw [hns]; simp⟩, ?_⟩, hto.2.2.2.1⟩, _, .le (p := ⟨[(18, .i (valTo arcs f (tkR rest way) arcs.length)), (17, .sl 5 0 (ns.length + 1)), (16, .sl (ws.length + 9) 0 1), (13, .sl 3 0 N), (12, .ptr 1 0 0), (4, .ptr 0 0 0), (2, .i t), (1, .i f)], hp4 N arcs (tkR rest way) (begR arcs N) (.dead :: .arr 1 ((ns ++ [tkN rest way]).map encI) :: .dead :: .arr 1 (rows way) :: (wtl ws ++ [.dead, .arv 1 [[.sl 7 0 way.length]]])), 0⟩) ?_ (.mv 4 (ws.length + 9) (.arv 1 [[.sl 7 0 way.length]]) (by omega) rfl (by simp only [hp4]; rw [show ws.length + 9 = (ws.length + 1) + 8 from rfl, get8, wtl_out]; rfl) (by simp [cx0, cxN]) (.mv (ws.length + 8) 7 (.arr 1 (rows way)) (by omega) ?_ ?_ (by simp [cx0, cxN]) (.refl _))), ?_⟩
   rotate_left
   ·unfold hp4
    simp -implicitDefEqProofs only [rX,↓reduceIte,Nat.reduceEqDiff,leE,leH,leB,leV,leVs,keepP,liveP,wfE,wfB,wfV,wfL,killB,kill,kills,St.kill,get8,wtl_out,wtl_kill,leVs,leV,hval,tkR_len,yF,kills,kill,Int.add_zero,eq_true begR_wf]
    exact ⟨leH_wtl2 (by simp [leH, leB]), wfB_wtl2 (by simp [wfB, wfL, wfV, liveP])⟩
   ·subst hw0; rfl
   ·subst hw0; rfl
   ·subst hw0
    have e : (([] ++ [way] : List (List Nat)) = []) = False := by simp
    have ew : wcs ([] ++ [way]) = [[.sl 8 0 way.length]] := by simp [wcs]
    have et : wtl ([] ++ [way]) = [.arr 1 (rows way)] := by simp [wtl]
    have e9 : wtl [] = [] := rfl
    unfold patX patO envO hp4
    simp -implicitDefEqProofs only [rX,↓reduceIte,Nat.reduceEqDiff,reduceCtorEq,leE,leH,leB,leV,leVs,keepP,liveP,wfE,wfB,wfV,wfL,leVs,leV,mvE,mvV,mvL,mvB,begR_mv,yF,e9,eq_true begR_wf]
    have ew' : wcs [way] = [[.sl 8 0 way.length]] := by simp [wcs]
    have et' : wtl [way] = [.arr 1 (rows way)] := by simp [wtl]
    exact ⟨⟨by rw [ew'], by rw [et']; simp [leH, leB]⟩, wcs_wf0, wtl_wf⟩
   have := hto.2.2.2.1
   show (ws ++ [way]).length + cnt (tkR rest way) arcs.length ≤ arcs.length ∧ (ns ++ [tkN rest way]).length = (ws ++ [way]).length
   simp; omega
  ·intro rest' e h b ha hle
   simp only [↓reduceIte]
   have hw := att_ok hV hft hF hv (N + 1) [] f (Wv.begin hf rest) (by simp)
   rw [ha] at hw
   rcases hw with ⟨w, h1, _⟩ | ⟨rest2, h1, h2, h3, h4⟩
   ·simp at h1
   simp only [yU, and_true] at h1
   subst h1
   refine ⟨(rest', ws, ns), ⟨⟨h2, ⟨ws', ns', hR.circ hv ha (by rw [h3]; exact hv), hws, hns⟩, ?_⟩, h4⟩, ?_⟩
   ·show ws.length + cnt rest' arcs.length ≤ arcs.length ∧ ns.length = ws.length
    omega
   ·rw [← h3] at hle
    refine ⟨_, .refl _, ?_⟩
    simp only [patX, if_pos hw0]
    exact hle
 ·have hvf : decide (0 < valTo arcs f rest arcs.length) = false := decide_eq_false hv
  simp -implicitDefEqProofs only [rX,↓rY,ofConst,cells?,splice,↓reduceIte,Nat.reduceEqDiff,freshP,isC,cxN,get8,set8,wtl_len,wtl_out0,wtl_set0,hvf]
  cases hR with
  | step h _ _ => exact absurd h hv
  | stop h =>
   rw [yK] at hws hns
   subst hws hns
   exact hX rest _ _ _ hw0
end Go.Fx.P.F
namespace Go.Fx.P.F
open Go Go.Fx Go.Proofs
set_option maxRecDepth 20000
theorem cnt_all (rest : List Int) : ∀ n, cnt rest n ≤ n
 | 0 => yG _
 | n + 1 => by
  have := cnt_all rest n
  simp only [cnt]; split <;> omega
theorem begS_nil {arcs : List Arc} {N : Nat} : nilRows (yY N [V.nil]) (begS arcs N 0) := by
 refine ⟨by simp [begS], fun i x y hx hy => ?_⟩
 rw [List.getElem?_replicate] at hx
 split at hx
 ·rename_i hi
  simp only [uB] at hx
  subst hx
  rw [yB (by rw [begS_len]; exact hi), begS_get] at hy
  simp only [uB] at hy
  subst hy
  refine ⟨rfl, fun j a b ha hb => ?_⟩
  cases j with
  | zero =>
   simp at ha hb
   subst ha hb
   exact .inr ⟨rfl, i + 4, rfl⟩
  | succ j => simp at ha
 ·cases hx
theorem begB_zero {arcs : List Arc} {N : Nat} : yY N (Blk.arr 1 []) = begB arcs N 0 := by
 apply yZ
 ·simp [begB]
 ·intro i h1 h2
  simp [begB, fromN, rows]
theorem leH_beg0 {arcs : List Arc} {N k : Nat} : leH (begB arcs N k) (begB arcs N k) := by
 have := leH_beg (arcs := arcs) (N := N) (k := k) (l := [])
 rwa [yK] at this
theorem check_flow {N : Nat} {arcs : List Arc} {f t : Int} {fl : List Int} (h : checkI N arcs f t fl = 0) : ∀ j : Int, 0 ≤ j → j < N → j ≠ f → j ≠ t → valTo arcs j fl arcs.length = 0 := by
 unfold checkI at h
 split at h
 ·simp at h
 ·split at h
  ·simp at h
  ·split at h
   ·rename_i h3; exact h3.1
   ·simp at h
theorem flow_Fv {N : Nat} {arcs : List Arc} {f t : Int} {flow : List Int} (hV : Val N arcs) (h : checkI N arcs f t flow = 0) : Fv N arcs f t flow := by
 obtain ⟨_, h1, h2⟩ := check0 h
 refine ⟨h1, fun q => ?_, check_flow h⟩
 by_cases hq : q < arcs.length
 ·have := (poss_iff h1).1 h2 q hq
  have := caps_in hV q
  omega
 ·simp [yA, uV (show flow.length ≤ q by omega)]
def wsR (ws : List (List Nat)) : V := if ws = [] then .nil else .sl 4 0 ws.length
def wsB (ws : List (List Nat)) : Blk := if ws = [] then .dead else .arv 1 (wcs ws)
theorem body22x (N : Nat) (arcs : List Arc) (f t : Int) (wsT : List (List Nat)) (nsT : List Int) (hV : Val N arcs) (hf : 0 ≤ f ∧ f < N) (hft : f ≠ t) {RR : St → Prop} {X : Nat → St → Prop}
  (hX : ∀ rest b y z, X 2 ⟨(62, y) :: (61, z) :: (patX N arcs f t rest wsT nsT).e, (patX N arcs f t rest wsT nsT).h, b⟩)
  (g : List Int × List (List Nat) × List Int) (hI : InP N arcs f t wsT nsT g.1 g.2.1 g.2.2) :
  aw cx0 c76l1 (fun s' => ∃ g' : List Int × List (List Nat) × List Int, (InP N arcs f t wsT nsT g'.1 g'.2.1 g'.2.2 ∧ cnt g'.1 arcs.length < cnt g.1 arcs.length) ∧ leG cx0.fx s' (patX N arcs f t g'.1 g'.2.1 g'.2.2)) X RR (patX N arcs f t g.1 g.2.1 g.2.2) := by
 obtain ⟨rest, ws, ns⟩ := g
 by_cases hw : ws = []
 ·have e : patX N arcs f t rest ws ns = patO0 N arcs f t rest ws ns := by rw [patX, if_pos hw]
  show aw _ _ _ _ _ (patX N arcs f t rest ws ns)
  rw [e]
  refine body22b0 N arcs f t wsT nsT hV hf hft (fun rest b y z hn => ?_) rest ws ns hw hI
  have := hX rest b y z
  rw [patX, if_pos hn] at this
  exact this
 ·have e : patX N arcs f t rest ws ns = patO N arcs f t rest ws ns := by rw [patX, if_neg hw]
  show aw _ _ _ _ _ (patX N arcs f t rest ws ns)
  rw [e]
  refine body22b N arcs f t wsT nsT hV hf hft (fun rest b y z hn => ?_) (rest, ws, ns) hI hw
  have := hX rest b y z
  rw [patX, if_neg hn] at this
  exact this
theorem ok76 (N : Nat) (arcs : List Arc) (f t : Int) (flow : List Int) (wsT : List (List Nat)) (nsT : List Int) (hV : Val N arcs) (hc : checkI N arcs f t flow = 0) (hR : PR N arcs f t flow wsT nsT) : Ok 76 [.agg [.i N, .ro 4 (arcs.map Arc.enc)], .i f, .i t, li flow] (IsQ (fun _ : Unit => True) (fun _ => .tup [wsR wsT, .sl 5 0 nsT.length, .i 0]) (fun _ => .dead :: .dead :: .dead :: .dead :: wsB wsT :: .arr 1 (nsT.map encI) :: .dead :: .dead :: wtl wsT)) := by
 have hN := hV.hn
 have hL := hV.hl
 obtain ⟨he, hfl, hfp⟩ := check0 hc
 have hE : (0 ≤ f ∧ f < N) ∧ (0 ≤ t ∧ t < N) ∧ f ≠ t := by simpa [endsB] using he
 have hF := flow_Fv hV hc
 have h00 : ((0 : Int) != 0) = false := rfl
 refine ok_of lw76 (by simp) ?_
 unfold c76
 simp -implicitDefEqProofs only [rX,↓rY,ofConst,cells?,↓reduceIte,Nat.reduceEqDiff,Nat.reduceAdd,reduceCtorEq,freshP,cxN,args0,li]
 refine call_is (ok40 N arcs f t flow hV) ?_ rfl ?_
 ·simp [net, li, bli, lendsOk, lendOk, lends, lend, wkL, wk, wkB, wkR, pos]
 rw [hc]
 simp -implicitDefEqProofs only [rX,↓rY,ofConst,↓reduceIte,Nat.reduceEqDiff,reduceCtorEq,h00]
 refine call_isA [.bro 1 (flow.map encI)] _ (.sl 2 0 flow.length) _ [.arr 1 (flow.map encI)] (ok98 flow (by omega)) ?_ rfl rfl ?_
 ·simp [lendsOk, lendOk, lends, lend, wkL, wk, wkB, wkR, pos]
 simp -implicitDefEqProofs only [rX,↓rY,ofConst,cells?,splice,↓reduceIte,Nat.reduceEqDiff,Nat.reduceAdd,freshP,isC]
 refine ⟨⟨⟨by omega, by omega⟩, by omega, by omega⟩, fun _ => ?_⟩
 refine loopP_ghost (.virt N 1 (by decide) (.nilW 3 1 (yY N [V.nil]) (begS arcs N 0) rfl begS_nil (.refl _))) (pat7 N arcs flow f t) (fun k => k ≤ arcs.length) (fun k => arcs.length - k) 0 (vZ _) ?_ (body22a N arcs flow f t hV ?_)
 ·unfold pat7 envP hp4
  simp -implicitDefEqProofs only [rX,↓reduceIte,Nat.reduceEqDiff,reduceCtorEq,leE,leH,leB,leV,leVs,keepP,liveP,wfE,wfB,wfV,wfL,leVs,leV,yC,begB_zero (arcs := arcs),eq_true leH_beg0,eq_true begS_wf,eq_true begB_wf]
 intro b y z
 unfold envP hp4
 have hvb := val_in2 hF
 simp only [↓reduceIte]
 simp -implicitDefEqProofs only [rX,↓rY,ofConst,↓reduceIte,Nat.reduceEqDiff,Nat.reduceAdd]
 refine call_is (ok37 N f arcs flow hfl (by omega) hN.2 (hV.flow hfl hfp) (fun a ha => (hV.ha a ha).1) (by omega)) ?_ rfl ?_
 ·simp [net, li, bli, lendsOk, lendOk, lends, lend, wkL, wk, wkB, wkR, pos]
 simp -implicitDefEqProofs only [rX,↓reduceIte]
 refine loopP_back (fun g : List Int × List (List Nat) × List Int => patX N arcs f t g.1 g.2.1 g.2.2) (fun g => InP N arcs f t wsT nsT g.1 g.2.1 g.2.2) (fun g => cnt g.1 arcs.length) (flow, [], []) ⟨hF, ⟨wsT, nsT, hR, rfl, rfl⟩, by have := cnt_all flow arcs.length; simpa using this⟩ ?_ (body22x N arcs f t wsT nsT hV hE.1 hE.2.2 ?_)
 ·refine ⟨_, .give (fun k => decide (4 ≤ k)) (by simp) (.le (p := ⟨[(18, .i (valTo arcs f flow arcs.length)), (17, .nil), (16, .nil), (13, .sl 3 0 N), (12, .ptr 1 0 0), (4, .ptr 0 0 0), (2, .i t), (1, .i f)], hp4 N arcs flow (begR arcs N) [], 0⟩) ?_ (.virt 4 1 (by decide) (.nilE 17 5 rfl (.refl _)))), ?_⟩
  ·unfold hp4
   simp -implicitDefEqProofs only [rX,↓reduceIte,Nat.reduceEqDiff,Nat.reduceAdd,leE,leH,leB,leV,leVs,keepP,liveP,wfE,wfB,wfV,wfL,Nat.reduceLeDiff,leVs,leV,St.give,gvE,gvV,gvH,gvB,gvL,begS_give,eq_true begR_wf,decide_false]
  ·have e9 : wtl [] = [] := rfl
   have ex : (([] : List (List Nat)) = []) = True := by simp
   unfold patX patO0 envO0 hp4
   simp -implicitDefEqProofs only [rX,↓reduceIte,Nat.reduceEqDiff,leE,leH,leB,leV,leVs,keepP,liveP,wfE,wfB,wfV,wfL,leVs,leV,eq_true begR_wf,e9]
 intro rest b2 y2 z2
 simp only [↓reduceIte]
 by_cases hw : wsT = []
 ·simp only [patX, wsR, wsB, if_pos hw]
  unfold patO0 envO0 hp4
  simp -implicitDefEqProofs only [rX,ofConst,↓reduceIte,Nat.reduceEqDiff]
  refine retP_isQ (Q := fun _ : Unit => True) () trivial ?_
  simp -implicitDefEqProofs only [rX,↓reduceIte,Nat.reduceEqDiff,resP,tupV,leH,leB,keepP,liveP,wfB,wfV,wfL,Nat.reduceLeDiff,eq_true leH_wtl0,eq_true wtl_wf]
 ·simp only [patX, wsR, wsB, if_neg hw]
  unfold patO envO hp4
  simp -implicitDefEqProofs only [rX,ofConst,↓reduceIte,Nat.reduceEqDiff]
  refine retP_isQ (Q := fun _ : Unit => True) () trivial ?_
  simp -implicitDefEqProofs only [rX,↓reduceIte,Nat.reduceEqDiff,resP,tupV,leH,leB,keepP,liveP,wfB,wfV,wfL,Nat.reduceLeDiff,eq_true leH_wtl0,eq_true wtl_wf,eq_true wcs_wf0]
end Go.Fx.P.F
namespace Go.Fx.P.F
open Go Go.Fx Go.Proofs
set_option maxRecDepth 20000
theorem call_isF {cx : Cx} {f : FuncId} {args : List V} {e : Env} {h : List Blk} {b : Nat} {K : V → St → Prop} {xs : List V} {x : V} (hC : cx.C f xs [] [] (Is x)) (h1 : lendsOk h (fun _ => none) args ∧ wkL xs (lends h (fun _ => none) args))
  (hx : ren (fun j => some (h.length + j)) x = x) (keep : keepP cx.fx h) (h3 : K x ⟨e, h, b⟩) : callP cx f args ⟨e, h, b⟩ K := by
 refine callP_pure xs (Is x) h1 hC ?_
 rintro r h' ⟨rfl, rfl⟩
 simp only [vJ, yK]
 exact ⟨keep, by rw [hx]; exact h3⟩
def hp50 (N : Nat) (arcs : List Arc) (rest : List Int) (way : List Nat) : List Blk := [.arr 1 (rest.map encI), .var [.i N, .ro 4 (arcs.map Arc.enc)], .arr 1 (rows way)]
def pat50 (N : Nat) (arcs : List Arc) (f t : Int) (rest : List Int) (way : List Nat) (at_ : Int) : St :=
 ⟨[(10, .i at_), (9, .sl 2 0 way.length), (4, .ptr 1 0 0), (3, .sl 0 0 rest.length), (2, .i t), (1, .i f)], hp50 N arcs rest way, 0⟩
structure In50 (N : Nat) (arcs : List Arc) (f t : Int) (restT : List Int) (wT : List Nat) (rest : List Int) (way : List Nat) (at_ : Int) : Prop where
 fv : Fv N arcs f t rest
 pos : 0 < valTo arcs f rest arcs.length
 run : PW N arcs f t rest restT wT
 wv : Wv N arcs f rest way at_
 att : att arcs t (N + 1 - way.length) rest way at_ = att arcs t (N + 1) rest [] f
theorem body50 (N : Nat) (arcs : List Arc) (f t : Int) (restT : List Int) (wT : List Nat) (hV : Val N arcs) (hf : 0 ≤ f ∧ f < N) (hft : f ≠ t) {RR : St → Prop} {X : Nat → St → Prop}
  (hX : ∀ b x y z, X 0 ⟨(16, x) :: (15, y) :: (14, z) :: (pat50 N arcs f t restT wT t).e, (pat50 N arcs f t restT wT t).h, b⟩)
  (g : List Int × List Nat × Int) (hI : In50 N arcs f t restT wT g.1 g.2.1 g.2.2) :
  aw (Go.Fx.cxN Try.prog [0]) c80l0 (fun s' => ∃ g' : List Int × List Nat × Int, (In50 N arcs f t restT wT g'.1 g'.2.1 g'.2.2 ∧ cnt g'.1 arcs.length * (N + 2) + (N + 1 - g'.2.1.length) < cnt g.1 arcs.length * (N + 2) + (N + 1 - g.2.1.length)) ∧ leG (Go.Fx.cxN Try.prog [0]).fx s' (pat50 N arcs f t g'.1 g'.2.1 g'.2.2)) X RR (pat50 N arcs f t g.1 g.2.1 g.2.2) := by
 obtain ⟨rest, way, at_⟩ := g
 obtain ⟨hF, hv, hP, hW, ha⟩ := hI
 simp only at hF hv hP hW ha
 have hL := hV.hl
 have hN := hV.hn
 have hwl := hW.len hV
 obtain ⟨m, hm⟩ : ∃ m, N + 1 - way.length = m + 1 := ⟨N - way.length, by omega⟩
 have ha0 := ha
 generalize hA : att arcs t (N + 1) rest [] f = A at *
 rw [hm] at ha
 unfold att at ha
 unfold c80l0 pat50 hp50
 by_cases hat : at_ = t
 ·subst hat
  rw [if_pos rfl] at ha
  simp -implicitDefEqProofs only [rX,↓rY,↓reduceIte,Nat.reduceEqDiff,Nat.reduceAdd,cxN,cxN,bne_self_eq_false]
  obtain ⟨e1, e2⟩ := (PW.way (hA.trans ha.symm)).det hP
  subst e1 e2
  have := hX 3 (.b false) (.i at_) (.i at_)
  unfold pat50 hp50 at this
  exact this
 ·rw [if_neg hat] at ha
  have hne : (at_ != t) = true := by simpa using hat
  obtain ⟨i, hi⟩ := first_ex hF hv hW hat
  rw [hi] at ha
  simp only at ha
  have hi2 := first_is hi
  have hW2 := hW.half hi
  have htr : yE rest.length (rest.map encI) = rest.map encI := take_enc rfl
  simp -implicitDefEqProofs only [rX,↓rY,↓reduceIte,Nat.reduceEqDiff,Nat.reduceAdd,cxN,cxN,hne]
  refine call_isF (ok104 N arcs rest at_ hF.len (by omega)) ?_ rfl ⟨trivial, trivial⟩ ?_
  ·simp [net, li, bli, lendsOk, lendOk, lends, lend, wkL, wk, wkB, wkR, blk, htr]
  have hge : decide ((i : Int) < 0) = false := decide_eq_false (by omega)
  rw [hi]
  simp -implicitDefEqProofs only [rX,↓rY,rZ,ofConst,cells?,↓reduceIte,Nat.reduceEqDiff,Nat.reduceAdd,reduceCtorEq,freshP,litsP,killE,killB,kill,kills,St.kill,isD,Nat.reduceLT,zI,hge]
  have hgi : gA arcs i = arcs[i]'hi2.1 := getD_nil (a := ⟨0,0,0,0⟩) hi2.1
  have hrow : yE way.length (rows way) ++ [[V.v (.int .i64 (i : Int))]] = rows (way ++ [i]) := by
   rw [rows_take (yG _), rows_snoc]; rfl
  refine ⟨⟨by rw [rows_len]; omega, by omega⟩, ⟨by omega, by omega⟩, hi2.1, ?_⟩
  rw [hrow, ← hgi]
  have hlen : (way ++ [i]).length = way.length + 1 := by simp
  generalize hwi : way ++ [i] = w2 at *
  generalize hto : (gA arcs i).to = to2 at *
  have htk : yE (way.length + 1) (rows w2) = rows w2 := rows_take (by omega)
  refine call_isF (ok105 N arcs w2 to2 (fun j hj => (hW2.2.1 j hj).1) (by omega) (by omega)) ?_ rfl ⟨trivial, trivial⟩ ?_
  ·simp [net, lendsOk, lendOk, lends, lend, wkL, wk, wkB, wkR, blk, htk, rows_len, hlen]
  cases hs : seenI arcs w2 to2 with
  | some k2 =>
   rw [hs] at ha
   simp only at ha
   obtain ⟨hk2, g1, _⟩ := seen_is hs
   have hd := isW_drop hW2.1 hk2
   rw [g1] at hd
   have hne2 : w2.drop k2 ≠ [] := by
    intro e
    have := congrArg vT e
    rw [yX, yT] at this
    omega
   have hnd : (w2.drop k2).Nodup := vG (vU _ _) (nodup_of_map hW2.2.2)
   have e51 := ok81 rest (w2.drop k2) hF.rng hne2 hnd (fun j hj => by rw [hF.len]; exact (hW2.2.1 j (vV hj)).1) (by have := hF.len; omega) (by simp; omega)
   have hge2 : decide ((0 : Int) ≤ (k2 : Int)) = true := by simp
   simp -implicitDefEqProofs only [rX,↓rY,ofConst,↓reduceIte,Nat.reduceEqDiff,arrSz,Nat.reduceAdd,slcOk,zI,hge2]
   refine ⟨by omega, ?_⟩
   have htk2 : yE (way.length + 1 - k2) (vE k2 (rows w2)) = rows (w2.drop k2) := by
    rw [rows_drop]; exact rows_take (by simp; omega)
   refine call_isN [0] [.sl 0 0 rest.length, .bro 1 (rows (w2.drop k2))] (.i (tkN rest (w2.drop k2))) (.i (tkN rest (w2.drop k2))) _ _ [.arr 1 ((tkR rest (w2.drop k2)).map encI), .var [.i N, .ro 4 (arcs.map Arc.enc)], .arr 1 (rows w2), .arr 1 [[V.v (.int .i64 (i : Int))]], .dead] e51 (by simp) rfl (by simp [lendsOk, lendOk, lends, lend, wkL, wk, wkB, wkR, pos, blk, htk2, rows_len, hlen]; omega) (by simp [takeH]) rfl rfl ⟨trivial, trivial⟩ ?_
   simp -implicitDefEqProofs only [rX,ofConst,↓reduceIte,Nat.reduceEqDiff,Nat.reduceAdd]
   have hw := att_ok hV hft hF hv (N + 1) [] f (Wv.begin hf rest) (by simp)
   rw [hA, ← ha] at hw
   rcases hw with ⟨w, h1, _⟩ | ⟨rest2, h1, h2, h3, h4⟩
   ·simp at h1
   simp only [yU, and_true] at h1
   subst h1
   refine ⟨(tkR rest (w2.drop k2), [], f), ⟨⟨h2, by show 0 < valTo arcs f (tkR rest (w2.drop k2)) arcs.length; rw [h3]; exact hv, ?_, Wv.begin hf _, rfl⟩, ?_⟩, _, .give (fun k => k == 2 || k == 3) (by simp) (.virtAt 2 1 (by decide) rfl (.nilE 9 2 rfl (.refl _))), ?_⟩
   ·cases hP with
    | way g => rw [hA, ← ha] at g; simp at g
    | circ g g2 =>
     rw [hA, ← ha] at g
     simp only [yU, and_true] at g
     subst g
     exact g2
   ·show cnt (tkR rest (w2.drop k2)) arcs.length * (N + 2) + (N + 1 - 0) < cnt rest arcs.length * (N + 2) + (N + 1 - way.length)
    have : (cnt (tkR rest (w2.drop k2)) arcs.length + 1) * (N + 2) ≤ cnt rest arcs.length * (N + 2) := Nat.mul_le_mul_right _ h4
    rw [Nat.add_mul] at this
    omega
   ·simp -implicitDefEqProofs only [rX,↓reduceIte,Nat.reduceEqDiff,Nat.reduceAdd,leE,leH,leB,leV,leVs,keepP,liveP,wfE,wfB,wfV,wfL,leVs,leV,St.give,gvE,gvV,gvH,gvB,gvL,uP,Bool.or_self,Bool.or_true,Bool.or_false,tkR_len,rows]
  | none =>
   rw [hs] at ha
   simp only at ha
   have hge2 : decide ((0 : Int) ≤ -1) = false := rfl
   simp -implicitDefEqProofs only [rX,↓rY,ofConst,↓reduceIte,Nat.reduceEqDiff,arrSz,Nat.reduceAdd,slcOk,zI,hge2]
   have hW3 : Wv N arcs f rest w2 to2 := ⟨hW2.1, hW2.2.1, hW2.2.2, seen_no hs, by rw [← hto]; exact (val_in hV hi2.1).2⟩
   refine ⟨(rest, w2, to2), ⟨⟨hF, hv, hP, hW3, ?_⟩, ?_⟩, _, .refl _, ?_⟩
   ·show att arcs t (N + 1 - w2.length) rest w2 to2 = _
    rw [hA, ← ha]; congr 1; omega
   ·show cnt rest arcs.length * (N + 2) + (N + 1 - w2.length) < cnt rest arcs.length * (N + 2) + (N + 1 - way.length)
    omega
   ·simp -implicitDefEqProofs only [rX,↓reduceIte,Nat.reduceEqDiff,leE,leH,leB,leV,leVs,keepP,liveP,wfE,wfB,wfV,wfL,leVs,leV,hlen]
theorem ok80 (N : Nat) (arcs : List Arc) (f t : Int) (rest restT : List Int) (wT : List Nat) (hV : Val N arcs) (hf : 0 ≤ f ∧ f < N) (hft : f ≠ t) (hF : Fv N arcs f t rest) (hv : 0 < valTo arcs f rest arcs.length) (hP : PW N arcs f t rest restT wT) :
  OkN 80 [.agg [.i N, .ro 4 (arcs.map Arc.enc)], .i f, .i t, .sl 0 0 rest.length] (takeH rest) (IsA (.sl 2 0 wT.length) [.arr 1 (restT.map encI), .dead, .arr 1 (rows wT)]) := by
 refine okN_of [0] lw80 (by simp) ⟨trivial, trivial⟩ rfl ?_
 unfold c80 takeH
 simp -implicitDefEqProofs only [rX,↓rY,ofConst,cells?,↓reduceIte,Nat.reduceEqDiff,Nat.reduceAdd,reduceCtorEq,freshP,cxN,args0,cxN]
 refine loopP_back (fun g : List Int × List Nat × Int => pat50 N arcs f t g.1 g.2.1 g.2.2) (fun g => In50 N arcs f t restT wT g.1 g.2.1 g.2.2) (fun g => cnt g.1 arcs.length * (N + 2) + (N + 1 - g.2.1.length)) (rest, [], f) ⟨hF, hv, hP, Wv.begin hf rest, rfl⟩ ?_ (body50 N arcs f t restT wT hV hf hft ?_)
 ·refine ⟨_, .virt 1 1 (by decide) (.nilE 9 2 rfl (.refl _)), ?_⟩
  unfold pat50 hp50
  simp -implicitDefEqProofs only [rX,↓reduceIte,Nat.reduceEqDiff,reduceCtorEq,leE,leH,leB,leV,leVs,keepP,liveP,wfE,wfB,wfV,wfL,leVs,leV,rows]
 intro b x y z
 unfold pat50 hp50
 simp only [↓reduceIte]
 simp -implicitDefEqProofs only [rX,↓reduceIte,Nat.reduceEqDiff,Nat.reduceAdd,resP,tupV,leH,leB,keepP,liveP,wfB,wfV,Nat.reduceLeDiff,retP_isA]
end Go.Fx.P.F
namespace Go.Fx.P.F
open Go Go.Fx Go.Proofs
set_option maxRecDepth 20000
def frzQ (fx : List Nat) (v : V) (r : List Nat) (s : St) (K : St → Prop) : Prop :=
 match v with
 | .sl k _ _ => frz1 fx k (blk s.h k) s fun s' => frzP fx r s' K
 | _ => frzP fx r s K
theorem op_litsf {cx : Cx} {e : Env} {h : List Blk} {b : Nat} {K : V → St → Prop} {xs : List Nat} {j sz n : Nat} {z : List Value} {ps : List (Nat × Operand)} : aOp cx (.litsf xs j sz n z ps) ⟨e, h, b⟩ K =
  frzP (cx.fx ++ cx.bn) xs ⟨e, h, b⟩ fun s => litsP s.e sz (yY n (z.map .v)) ps fun els => freshP s.h (s.b + j) ∧ K (.sl (s.b + j) 0 n) { s with h := s.h.set (s.b + j) (.arr sz els) } := rfl
theorem frzP_n {fx : List Nat} {s : St} {K : St → Prop} : frzP fx [] s K = K s := rfl
theorem frzP_c {fx : List Nat} {x : Nat} {r : List Nat} {e : Env} {h : List Blk} {b : Nat} {K : St → Prop} : frzP fx (x :: r) ⟨e, h, b⟩ K = frzQ fx (get e x) r ⟨e, h, b⟩ K := rfl
theorem frzQ_s {fx : List Nat} {k i n : Nat} {r : List Nat} {e : Env} {h : List Blk} {b : Nat} {K : St → Prop} : frzQ fx (.sl k i n) r ⟨e, h, b⟩ K = frz1 fx k (blk h k) ⟨e, h, b⟩ fun s' => frzP fx r s' K := rfl
theorem frz1_a {fx : List Nat} {k sz : Nat} {els : List (List V)} {e : Env} {h : List Blk} {b : Nat} {K : St → Prop} : frz1 fx k (.arr sz els) ⟨e, h, b⟩ K = (k ∉ fx ∧ K ⟨frzE k sz els e, (h.map (frzB k sz els)).set k .dead, b⟩) := rfl
@[congr] theorem c_frzQ {fx : List Nat} {v v' : V} {r : List Nat} {s : St} {K : St → Prop} (q : v = v') : frzQ fx v r s K = frzQ fx v' r s K := by rw [q]
@[congr] theorem c_frz1 {fx : List Nat} {k : Nat} {B B' : Blk} {s : St} {K : St → Prop} (q : B = B') : frz1 fx k B s K = frz1 fx k B' s K := by rw [q]
@[congr] theorem c_frzP {fx xs : List Nat} {s s' : St} {K : St → Prop} (q : s = s') : frzP fx xs s K = frzP fx xs s' K := by rw [q]
def pathsG (ws : List (List Nat)) (ns : List Int) (e : Int) : V := .agg [.ro 1 (wrows ws), .ro 1 (ns.map encI), .i e]
def pat23 (N : Nat) (arcs : List Arc) (f t : Int) (rest : List Int) (ws : List (List Nat)) (ns : List Int) : St :=
 ⟨[(11, .ptr 4 0 0), (10, .sl 2 0 rest.length), (8, .ptr 1 0 0), (4, .ptr 0 0 0), (2, .i t), (1, .i f)],
  [.var [.i N, .ro 4 (arcs.map Arc.enc)], .var [.nil, .nil, .i 0], .arr 1 (rest.map encI), .dead, .var [.sl 5 0 ws.length, .sl 6 0 ns.length, .i 0], .arr 1 (wrows ws), .arr 1 (ns.map encI)], 0⟩
theorem body23 (N : Nat) (arcs : List Arc) (f t : Int) (wsT : List (List Nat)) (nsT : List Int) (hV : Val N arcs) (hf : 0 ≤ f ∧ f < N) (hft : f ≠ t) {RR : St → Prop} {X : Nat → St → Prop}
  (hX : ∀ rest b x1 x2 x3 x4 x5, X 0 ⟨(29, x1) :: (28, x2) :: (27, x3) :: (26, x4) :: (25, x5) :: (pat23 N arcs f t rest wsT nsT).e, (pat23 N arcs f t rest wsT nsT).h, b⟩)
  (g : List Int × List (List Nat) × List Int) (hI : InP N arcs f t wsT nsT g.1 g.2.1 g.2.2) :
  aw cx0 c51l0 (fun s' => ∃ g' : List Int × List (List Nat) × List Int, (InP N arcs f t wsT nsT g'.1 g'.2.1 g'.2.2 ∧ cnt g'.1 arcs.length < cnt g.1 arcs.length) ∧ leS cx0.fx s' (pat23 N arcs f t g'.1 g'.2.1 g'.2.2)) X RR (pat23 N arcs f t g.1 g.2.1 g.2.2) := by
 obtain ⟨rest, ws, ns⟩ := g
 obtain ⟨hF, ⟨ws', ns', hR, hws, hns⟩, hln⟩ := hI
 simp only at hF hR hws hns hln
 have hL := hV.hl
 have hN := hV.hn
 have htr : yE rest.length (rest.map encI) = rest.map encI := take_enc rfl
 have hbr : ∀ x ∈ rest, 0 ≤ x ∧ x ≤ 1073741824 := fun x hx => by
  obtain ⟨i, hi, rfl⟩ := yN hx
  have := hF.rng i
  rw [yA, yB hi] at this
  exact this
 unfold c51l0 pat23
 simp -implicitDefEqProofs only [rX,↓rY,↓reduceIte,Nat.reduceEqDiff,Nat.reduceAdd,cxN]
 refine call_is (ok79 N f arcs rest hF.len (by omega) hbr) ?_ rfl ?_
 ·simp [net, li, bli, lendsOk, lendOk, lends, lend, wkL, wk, wkB, wkR, pos, blk, htr]
 by_cases hv : 0 < valTo arcs f rest arcs.length
 ·have hvt : decide (0 < valTo arcs f rest arcs.length) = true := decide_eq_true hv
  simp -implicitDefEqProofs only [rX,↓rY,ofConst,↓reduceIte,Nat.reduceEqDiff,Nat.reduceAdd,hvt]
  cases hR with
  | stop h => omega
  | @step _ rest1 way ws2 ns2 h hP hR2 =>
  obtain ⟨r1, w1, k1, k2, k3, k4, k5, k6, k7, k8⟩ := PW.ok hV hf hft _ rest (yG _) hF hv
  obtain ⟨e1, e2⟩ := k1.det hP
  subst e1 e2
  have hto := take_ok k2 k6 k5 k7 k8
  have hFv := take_Fv k2 k6 k5 k7 k8 (.inr ⟨rfl, rfl⟩)
  have hlr : r1.length = rest.length := by rw [k2.len, hF.len]
  have hwl : w1.length ≤ arcs.length := by
   have := nodup_le (l := w1.map Int.ofNat) arcs.length (by
    rw [vA, vQ]
    exact uQ (fun h e => h (uR e)) (vA.1 k7)) (by
    intro v hv
    rw [yI] at hv
    obtain ⟨i, hi, rfl⟩ := hv
    have := (k8 i hi).1
    simp only [uS]; omega)
   simpa using this
  have e50 := ok80 N arcs f t rest r1 w1 hV hf hft hF hv hP
  refine call_isN [2] [.agg [.i N, .ro 4 (arcs.map Arc.enc)], .i f, .i t, .sl 0 0 rest.length] (.sl 2 0 w1.length) (.sl 8 0 w1.length) _ _ [.var [.i N, .ro 4 (arcs.map Arc.enc)], .var [.nil, .nil, .i 0], .arr 1 (r1.map encI), .dead, .var [.sl 5 0 ws.length, .sl 6 0 ns.length, .i 0], .arr 1 (wrows ws), .arr 1 (ns.map encI), .dead, .arr 1 (rows w1)] e50 (by simp [cx0]) rfl (by simp [lendsOk, lendOk, lends, lend, wkL, wk, wkB, wkR, wkR, pos]) (by simp) rfl rfl trivial ?_
  have hw0 : ((w1.length : Int) == 0) = false := by
   have := uM.2 k5
   simp; omega
  have htw : yE w1.length (rows w1) = rows w1 := rows_take (yG _)
  have htws : yE ws.length (wrows ws) = wrows ws := yL (by rw [wrows_len]; exact yG _)
  have hwp : w1.length ≤ (rows w1).length := by rw [rows_len]; exact yG _
  simp -implicitDefEqProofs only [rX,↓rY,rdK,ofConst,cells?,splice,↓reduceIte,Nat.reduceEqDiff,Nat.reduceAdd,reduceCtorEq,freshP,litsP,killE,killB,kill,kills,St.kill,isD,isC,Nat.reduceLT,Nat.reduceLeDiff,hw0,↓op_litsf,↓frzP_n,↓frzP_c,↓frzQ_s,↓frz1_a,frzE,frzV,frzL,frzB,rows_len]
  intro _
  rw [htw, htws, ← wrows_snoc]
  refine ⟨⟨by rw [wrows_len]; omega, by omega⟩, ?_⟩
  have e51 := ok81 r1 w1 k2.rng k5 k7 (fun j hj => by rw [k2.len]; exact (k8 j hj).1) (by have := k2.len; omega) (by omega)
  rw [hlr] at e51
  refine call_isN [2] [.sl 0 0 rest.length, .bro 1 (rows w1)] (.i (tkN r1 w1)) (.i (tkN r1 w1)) _ _ [.var [.i N, .ro 4 (arcs.map Arc.enc)], .var [.nil, .nil, .i 0], .arr 1 ((tkR r1 w1).map encI), .dead, .var [.sl 5 0 (ws.length + 1), .sl 6 0 ns.length, .i 0], .arr 1 (wrows (ws ++ [w1])), .arr 1 (ns.map encI), .dead, .dead, .arr 1 [[.ro 1 (rows w1)]], .dead, .dead, .dead] e51 (by simp [cx0]) rfl (by simp [lendsOk, lendOk, lends, lend, wkL, wk, wkB, wkR, pos]) (by simp [takeH]) rfl rfl trivial ?_
  have e0 : yE ns.length (ns.map encI) ++ [[V.v (.int .i64 (tkN r1 w1))]] = (ns ++ [tkN r1 w1]).map encI := by
   rw [yL (by simp), yF]; rfl
  simp -implicitDefEqProofs only [rX,↓rY,cells?,splice,↓reduceIte,Nat.reduceEqDiff,Nat.reduceAdd,reduceCtorEq,freshP,litsP,leE,leH,leB,leV,leVs,keepP,liveP,wfE,wfB,wfV,wfL,killE,killB,kill,kills,St.kill,isD,isC,Nat.reduceLT,Nat.reduceLeDiff,e0]
  refine ⟨by omega, (tkR r1 w1, ws ++ [w1], ns ++ [tkN r1 w1]), ⟨⟨hFv, ⟨ws2, ns2, hR2, by rw [hws]; simp, by rw [hns]; simp⟩, ?_⟩, ?_⟩, ?_⟩
  ·have := hto.2.2.2.1
   show (ws ++ [w1]).length + cnt (tkR r1 w1) arcs.length ≤ arcs.length ∧ (ns ++ [tkN r1 w1]).length = (ws ++ [w1]).length
   simp; omega
  ·have := hto.2.2.2.1
   show cnt (tkR r1 w1) arcs.length < cnt rest arcs.length
   omega
  ·simp [tkR_len, hlr]
 ·have hvf : decide (0 < valTo arcs f rest arcs.length) = false := decide_eq_false hv
  simp -implicitDefEqProofs only [rX,↓rY,ofConst,↓reduceIte,Nat.reduceEqDiff,Nat.reduceAdd,hvf]
  cases hR with
  | step h _ _ => exact absurd h hv
  | stop h =>
   rw [yK] at hws hns
   subst hws hns
   exact hX rest 7 _ _ _ _ _
theorem ok51 (N : Nat) (arcs : List Arc) (f t : Int) (flow : List Int) (wsT : List (List Nat)) (nsT : List Int) (hV : Val N arcs) (hc : checkI N arcs f t flow = 0) (hR : PR N arcs f t flow wsT nsT) : Ok 51 [.agg [.i N, .ro 4 (arcs.map Arc.enc)], .i f, .i t, li flow] (Is (pathsG wsT nsT 0)) := by
 have hN := hV.hn
 have hL := hV.hl
 obtain ⟨he, hfl, hfp⟩ := check0 hc
 have hE : (0 ≤ f ∧ f < N) ∧ (0 ≤ t ∧ t < N) ∧ f ≠ t := by simpa [endsB] using he
 have hF := flow_Fv hV hc
 have h00 : ((0 : Int) != 0) = false := rfl
 refine ⟨rlF_callable lw51, Fn_give (R := fun q hs => wk (pathsG wsT nsT 0) (gvV (fun _ => true) hs q)) ?_ fun _ _ h => h⟩
 refine (ok_of lw51 (by simp) ?_).2
 unfold c51
 simp -implicitDefEqProofs only [rX,↓rY,ofConst,cells?,↓reduceIte,Nat.reduceEqDiff,Nat.reduceAdd,reduceCtorEq,freshP,cxN,args0,li]
 refine call_is (ok78 N arcs f t flow hV) ?_ rfl ?_
 ·simp [net, li, bli, lendsOk, lendOk, lends, lend, wkL, wk, wkB, wkR, pos]
 rw [hc]
 simp -implicitDefEqProofs only [rX,↓rY,ofConst,cells?,splice,↓reduceIte,Nat.reduceEqDiff,Nat.reduceAdd,reduceCtorEq,freshP,buildP,litsP,killE,killB,kill,kills,St.kill,isC,h00]
 refine ⟨.inr trivial, by omega, ?_⟩
 refine loopP_ghost (.virt 2 1 (by decide) (.nilB 4 [.nil, .nil, .i 0] [.sl 5 0 0, .sl 6 0 0, .i 0] rfl ?_ (.refl _)))
  (fun g : List Int × List (List Nat) × List Int => pat23 N arcs f t g.1 g.2.1 g.2.2) (fun g => InP N arcs f t wsT nsT g.1 g.2.1 g.2.2) (fun g => cnt g.1 arcs.length) (flow, [], []) ⟨hF, ⟨wsT, nsT, hR, rfl, rfl⟩, by have := cnt_all flow arcs.length; simpa using this⟩ ?_ (body23 N arcs f t wsT nsT hV hE.1 hE.2.2 ?_)
 ·refine ⟨rfl, fun i x y hx hy => ?_⟩
  match i, hx, hy with
  | 0, hx, hy => simp at hx hy; subst hx hy; exact .inr ⟨rfl, 5, rfl⟩
  | 1, hx, hy => simp at hx hy; subst hx hy; exact .inr ⟨rfl, 6, rfl⟩
  | 2, hx, hy => simp at hx hy; subst hx hy; exact .inl rfl
 ·unfold pat23
  simp -implicitDefEqProofs only [rX,↓reduceIte,Nat.reduceEqDiff,reduceCtorEq,leE,leH,leB,leV,leVs,keepP,liveP,wfE,wfB,wfV,wfL,leVs,leV,wrows]
 intro rest b x1 x2 x3 x4 x5
 unfold pat23
 simp only [↓reduceIte]
 simp -implicitDefEqProofs only [rX,↓rY,cells?,splice,↓reduceIte,Nat.reduceEqDiff,Nat.reduceAdd,resP,tupV,keepP,liveP,wfV,wfL,isC,retP_eq]
 refine ⟨[.dead, .dead, .dead, .dead, .dead, .arr 1 (wrows wsT), .arr 1 (nsT.map encI)], ⟨by simp [leH, leB], by simp, by simp [wfV, wfL, liveP], by simp [wfB]⟩, ?_⟩
 have e1 : yE wsT.length (wrows wsT) = wrows wsT := yL (by rw [wrows_len]; exact yG _)
 have e2 : yE nsT.length (nsT.map encI) = nsT.map encI := take_enc rfl
 simp [pathsG, gvV, gvL, wk, wkL, wkR, blk, e1, e2, wrows_len]
end Go.Fx.P.F
