import Derived.Test.YtemlboicdekgbaaFxRunSound
import Derived.Test.YtemlboicdekgbaaPSan
import Derived.Test.YtemlboicdekgbaaFxRun
set_option linter.unusedVariables false
set_option linter.unusedSimpArgs false
set_option linter.unusedSectionVars false
open List renaming getD_eq_getElem?_getD → yA, mem_cons_self → yB, mem_cons_of_mem → yC, getElem?_eq_getElem → yD, getElem_mem → yE, map_append → yG, length_append → yH, mem_map → yI, take → yJ, mem_range → yK, map_map → yL, range → yM, append_nil → yN, length_map → yP, length_range → yQ, getElem_of_mem → yT, length_cons → yW, nodup_iff_pairwise_ne → yX, map_cons → yY, mem_singleton → yZ, length_drop → vA, length_nil → vB, take_of_length_le → vC, getElem?_append_left → vD, ext_getElem → vE, replicate → vF, append_assoc → vH, map_congr_left → vI, drop → vL, nodup_cons → vM, mem_cons → vN, map_nil → vO, getElem?_append_right → vR, getElem_map → vS, pairwise_map → vT, length → vU, drop_sublist → vV, mem_of_mem_drop → vW, filter_append → vX, mem_flatten → vY, mem_of_getElem? → uA, mem_append → uB, getElem_append_left → uC, getElem_set → uD, set_append_right → uE, findIdx?_eq_some_iff_getElem → uF, findIdx?_eq_none_iff → uG, take_length → uH, range_succ → uI, drop_eq_getElem_cons → uN, getElem?_range → uP, getElem?_eq_none → uQ, mem_map_of_mem → uR, mem_of_find?_eq_some → uS, length_pos_iff → uT, filter_eq_self → uU, take_succ_eq_append_getElem → uV
open Int renaming natCast_zero → yF, le_refl → yU, toNat_of_nonneg → vJ, toNat → vK, ofNat_eq_natCast → uL, add_zero → uM, zero_add → uO
open Option renaming getD_some → yO
open Nat renaming le_refl → yS, zero_le → vG
open Prod.mk renaming injEq → yV
open List.Nodup renaming sublist → vP
open Option.some renaming injEq → vQ
open Bool renaming and_eq_true → vZ
open List.Pairwise renaming imp → uJ
open Int.ofNat renaming inj → uK
namespace Go.Fx.P
open Go Go.Fx Go.Proofs
set_option maxRecDepth 20000
theorem san10 : Ok 10 [] (Is (.b true)) := san
theorem s10 {cx : Cx} {e : Env} {h : List Blk} {b : Nat} {K : V → St → Prop} : cx.C = C0 Try.prog → cx.fx = [] → K (.b true) ⟨e, h, b⟩ → callP cx 10 [] ⟨e, h, b⟩ K := by
 intro hc hf hk
 exact call_is (by rw [hc]; exact san10) (by simp [lendsOk, lends, wkL]) rfl (by rw [hf]; trivial) hk
theorem chk_caps {ps : List Spot} {rs : List Road} (h : chkP ps rs = 0) : (ps.length ≤ 100 ∧ rs.length ≤ 1500) ∧ CapsOk ps ∧ RInv ps rs rs.length := by
 unfold chkP at h
 by_cases h1 : 100 < ps.length ∨ 1500 < rs.length
 ·rw [if_pos h1] at h; cases h
 rw [if_neg h1] at h
 by_cases h2 : firstE (eAt ps) ps.length 0 ≠ 0
 ·rw [if_pos h2] at h; exact absurd h h2
 rw [if_neg h2] at h
 by_cases h3 : ∀ r ∈ rs, SoundP ps r
 ·refine ⟨by omega, ?_, ⟨fun j hj _ => h3 _ (yE hj)⟩⟩
  have key : ∀ n i, i ≤ n → i < ps.length → eAt ps i = 0 := by
   intro n
   induction n with
   | zero =>
    intro i hi hil
    by_cases h4 : eAt ps i = 0
    ·exact h4
    ·exact absurd (firstE_at (n := ps.length) (k := 0) (by omega) (by omega) (fun j _ hj => by omega) h4) (by simp only [ne_eq, Classical.not_not] at h2; rw [h2]; exact fun h5 => h4 h5.symm)
   | succ n ih =>
    intro i hi hil
    by_cases h4 : eAt ps i = 0
    ·exact h4
    ·exact absurd (firstE_at (n := ps.length) (k := 0) (by omega) (by omega) (fun j _ hj => ih j (by omega) (by omega)) h4) (by simp only [ne_eq, Classical.not_not] at h2; rw [h2]; exact fun h5 => h4 h5.symm)
  intro i hi
  have := key i i (by omega) hi
  rw [eAt_lt hi] at this
  by_cases h4 : rightB ps[i] = false
  ·rw [if_pos h4] at this; cases this
  ·have h5 : RightP ps[i] := by simpa [rightB] using h4
   exact h5.1
 ·rw [if_neg h3] at h; cases h
abbrev tPl : Fx.T := .st [.sl 3 (.st [.int .i64, .int .i64, .int .i64]), .sl 4 (.st [.int .i64, .int .i64, .int .i64, .int .i64])]
theorem fn_of' {f : FuncId} {xs : List V} (h : Ok f xs (Is (.b true))) : Fn Try.prog f xs [] [] (fun r _ => r = .b true) := (okN_post h fun r h' hr => hr.1).2
theorem exM {α β : Type} {g : α → β} : ∀ {els : List β}, (∀ x ∈ els, ∃ a, x = g a) → ∃ l : List α, els = l.map g
 | [], _ => ⟨[], rfl⟩
 | x :: r, h => by
  obtain ⟨a, rfl⟩ := h x yB
  obtain ⟨l, rfl⟩ := exM (els := r) fun y hy => h y (yC _ hy)
  exact ⟨a :: l, rfl⟩
theorem wf_sp {x : List V} (h : WfT (.st [.int .i64, .int .i64, .int .i64]) x) : ∃ a : Spot, x = a.enc := by
 simp only [WfT, WfTs] at h
 obtain ⟨_, _, rfl, ⟨a, rfl, _⟩, _, _, rfl, ⟨b, rfl, _⟩, _, _, rfl, ⟨c, rfl, _⟩, rfl⟩ := h
 exact ⟨⟨a, b, c⟩, rfl⟩
theorem wf_rd {x : List V} (h : WfT (.st [.int .i64, .int .i64, .int .i64, .int .i64]) x) : ∃ a : Road, x = a.enc := by
 simp only [WfT, WfTs] at h
 obtain ⟨_, _, rfl, ⟨a, rfl, _⟩, _, _, rfl, ⟨b, rfl, _⟩, _, _, rfl, ⟨c, rfl, _⟩, _, _, rfl, ⟨d, rfl, _⟩, rfl⟩ := h
 exact ⟨⟨a, b, c, d⟩, rfl⟩
theorem wf_plant {x : V} (h : WfV tPl x) : ∃ ps rs, x = plant ps rs := by
 simp only [WfV] at h
 obtain ⟨cs, h, rfl⟩ := h
 rw [WfTs.eq_2] at h
 obtain ⟨a, b, rfl, h1, h2⟩ := h
 rw [WfTs.eq_2] at h2
 obtain ⟨c, d, rfl, h3, h4⟩ := h2
 rw [WfTs.eq_1] at h4
 subst h4
 rw [WfT] at h1
 obtain ⟨els, rfl, _, he⟩ := h1
 obtain ⟨ps, rfl⟩ := exM (fun x hx => wf_sp (he x hx))
 rw [WfT] at h3
 obtain ⟨els, rfl, _, he⟩ := h3
 obtain ⟨rs, rfl⟩ := exM (fun x hx => wf_rd (he x hx))
 exact ⟨ps, rs, rfl⟩
end Go.Fx.P
namespace Go.Fx.P.K
open Go Go.Fx Go.Proofs
set_option maxRecDepth 20000
def nodeB (n k : Int) : Bool := decide (0 ≤ k ∧ k < n)
theorem ok96 (n : Int) (arcs : List Arc) (k : Int) : Ok 96 [net n arcs, .i k] (Is (.b (nodeB n k))) := by
 refine ok_of lw96 (by simp) ?_
 unfold c96 net
 simp -implicitDefEqProofs only [rX,↓rY,ofConst,cells?,↓reduceIte,Nat.reduceEqDiff,reduceCtorEq,freshP,resP,tupV,wfV,cxN,args0]
 simp only [br, decide_eq_true_eq, decide_eq_false_iff_not, nodeB]
 grind
def nb (n : Int) (arcs : List Arc) : Blk := .var [.i n, .ro 4 (arcs.map Arc.enc)]
end Go.Fx.P.K
namespace Go.Fx.P.K
open Go Go.Fx Go.Proofs
set_option maxRecDepth 20000
def validA (n : Int) (a : Arc) : Bool := nodeB n a.from_ && (nodeB n a.to && decide (a.from_ ≠ a.to ∧ 0 ≤ a.cap ∧ a.cap ≤ 1073741824 ∧ 0 ≤ a.cost ∧ a.cost ≤ 1048576))
def checkI (n : Int) (arcs : List Arc) : Int := if 256 < n ∨ 2048 < arcs.length then 2 else if n < 1 then 1 else if arcs.all (validA n) then 0 else 1
theorem checkI_0 {n : Int} {arcs : List Arc} (h : ¬ (256 < n ∨ 2048 < arcs.length)) (h1 : ¬ n < 1) (h2 : ∀ k (h : k < arcs.length), validA n arcs[k] = true) : checkI n arcs = 0 := by
 have : arcs.all (validA n) = true := by
  rw [List.all_eq_true]
  intro a ha
  obtain ⟨j, hj, rfl⟩ := yT ha
  exact h2 j hj
 simp only [checkI, if_neg h, if_neg h1, this, if_true]
end Go.Fx.P.K
namespace Go.Fx.P.K
open Go Go.Fx Go.Proofs
set_option maxRecDepth 20000
structure Val (N : Nat) (arcs : List Arc) : Prop where
 hn : 1 ≤ N ∧ N ≤ 256
 hl : arcs.length ≤ 2048
 ha : ∀ a ∈ arcs, (0 ≤ a.from_ ∧ a.from_ < N) ∧ (0 ≤ a.to ∧ a.to < N) ∧ a.from_ ≠ a.to ∧ (0 ≤ a.cap ∧ a.cap ≤ 1073741824) ∧ 0 ≤ a.cost ∧ a.cost ≤ 1048576
theorem Val.of {n : Int} {arcs : List Arc} (h : checkI n arcs = 0) : ∃ N : Nat, n = N ∧ Val N arcs := by
 unfold checkI at h
 split at h
 ·cases h
 ·split at h
  ·cases h
  ·split at h
   ·rename_i h1 h2 h3
    refine ⟨n.toNat, by omega, by omega, by omega, fun a ha => ?_⟩
    rw [List.all_eq_true] at h3
    have := h3 a ha
    simp only [validA, nodeB, vZ, decide_eq_true_eq] at this
    omega
   ·cases h
theorem Val.chk {N : Nat} {arcs : List Arc} (h : Val N arcs) : checkI N arcs = 0 := by
 obtain ⟨h1, h2, h3⟩ := h
 refine checkI_0 (by omega) (by omega) fun k hk => ?_
 have := h3 _ (yE hk)
 simp only [validA, nodeB, vZ, decide_eq_true_eq]
 omega
def possP (arcs : List Arc) (flow : List Int) : Prop := ∀ i (h1 : i < flow.length) (h2 : i < arcs.length), 0 ≤ flow[i] ∧ flow[i] ≤ arcs[i].cap
theorem Val.flow {N : Nat} {arcs : List Arc} (h : Val N arcs) {flow : List Int} (hl : flow.length = arcs.length) (hp : possP arcs flow) : ∀ x ∈ flow, 0 ≤ x ∧ x ≤ 1073741824 := by
 intro x hx
 obtain ⟨i, hi, rfl⟩ := yT hx
 have h1 := hp i hi (by omega)
 have h2 := (h.ha arcs[i] (yE _))
 omega
def valTo (arcs : List Arc) (node : Int) (flow : List Int) : Nat → Int
 | 0 => 0
 | k + 1 => valTo arcs node flow k + (if (arcs.getD k ⟨0,0,0,0⟩).from_ = node then flow.getD k 0 else 0) - (if (arcs.getD k ⟨0,0,0,0⟩).to = node then flow.getD k 0 else 0)
theorem flow_b {flow : List Int} (hf : ∀ x ∈ flow, 0 ≤ x ∧ x ≤ 1073741824) (k : Nat) : 0 ≤ flow.getD k 0 ∧ flow.getD k 0 ≤ 1073741824 := by
 rw [yA]
 cases h : flow[k]? with
 | none => simp
 | some x => exact hf x (uA h)
theorem valTo_bound (arcs : List Arc) (node : Int) (flow : List Int) (hf : ∀ x ∈ flow, 0 ≤ x ∧ x ≤ 1073741824) : ∀ k : Nat, -((k : Int) * 1073741824) ≤ valTo arcs node flow k ∧ valTo arcs node flow k ≤ (k : Int) * 1073741824
 | 0 => by simp [valTo]
 | k + 1 => by
  have h1 := valTo_bound arcs node flow hf k
  have h2 := flow_b hf k
  simp only [valTo]
  split <;> split <;> omega
theorem valTo_step {arcs : List Arc} {node : Int} {flow : List Int} {k : Nat} (h1 : k < arcs.length) (h2 : k < flow.length) : valTo arcs node flow (k + 1) = valTo arcs node flow k + (if arcs[k].from_ = node then flow[k] else 0) - (if arcs[k].to = node then flow[k] else 0) := by
 simp only [valTo, yA, yD h1, yD h2, yO]
def totTo (arcs : List Arc) (flow : List Int) : Nat → Int
 | 0 => 0
 | k + 1 => totTo arcs flow k + flow.getD k 0 * (arcs.getD k ⟨0,0,0,0⟩).cost
theorem totTo_step {arcs : List Arc} {flow : List Int} {k : Nat} (h1 : k < arcs.length) (h2 : k < flow.length) : totTo arcs flow (k + 1) = totTo arcs flow k + flow[k] * arcs[k].cost := by
 simp only [totTo, yA, yD h1, yD h2, yO]
theorem mul_b {a b : Int} (h1 : 0 ≤ a ∧ a ≤ 1073741824) (h2 : 0 ≤ b ∧ b ≤ 1048576) : 0 ≤ a * b ∧ a * b ≤ 1125899906842624 := by
 refine ⟨Int.mul_nonneg h1.1 h2.1, ?_⟩
 have := Int.mul_le_mul h1.2 h2.2 h2.1 (by omega)
 omega
theorem totTo_bound (arcs : List Arc) (flow : List Int) (hf : ∀ x ∈ flow, 0 ≤ x ∧ x ≤ 1073741824) (ha : ∀ a ∈ arcs, 0 ≤ a.cost ∧ a.cost ≤ 1048576) : ∀ k : Nat, 0 ≤ totTo arcs flow k ∧ totTo arcs flow k ≤ (k : Int) * 1125899906842624
 | 0 => by simp [totTo]
 | k + 1 => by
  have h1 := totTo_bound arcs flow hf ha k
  have h2 := flow_b hf k
  have h3 : 0 ≤ (arcs.getD k ⟨0,0,0,0⟩).cost ∧ (arcs.getD k ⟨0,0,0,0⟩).cost ≤ 1048576 := by
   rw [yA]
   cases h : arcs[k]? with
   | none => simp
   | some x => exact ha x (uA h)
  have := mul_b h2 h3
  simp only [totTo]
  omega
theorem ok71 (n node : Int) (arcs : List Arc) (flow : List Int) (hl : flow.length = arcs.length) (hb : arcs.length ≤ 4096) (hf : ∀ x ∈ flow, 0 ≤ x ∧ x ≤ 1073741824) : Ok 71 [net n arcs, li flow, .i node] (Is (.i (valTo arcs node flow arcs.length))) := by
 refine ok_of lw71 (by simp) ?_
 unfold c71 net li
 simp -implicitDefEqProofs only [rX,↓rY,ofConst,cells?,↓reduceIte,Nat.reduceAdd,freshP,cxN,args0]
 refine loopP_intro (fun k : Nat => ⟨[(8, .i k), (7, .i (valTo arcs node flow k)), (3, .ptr 0 0 0), (2, .i node), (1, .ro 1 (flow.map encI))], [.var [.i n, .ro 4 (arcs.map Arc.enc)]], 0⟩) (fun k => k ≤ arcs.length) (fun k => arcs.length - k) 0 (by simp) ?_ ?_
 ·simp -implicitDefEqProofs only [rX,↓reduceIte,Nat.reduceEqDiff,reduceCtorEq,leE,leH,leB,leV,leVs,keepP,liveP,wfE,wfB,wfV,wfL,leVs,leV,valTo,yF]
 intro k hk
 simp -implicitDefEqProofs only [rX,↓rY,rZ,ofConst,↓reduceIte,Nat.reduceEqDiff,resP,tupV,leE,leH,leB,leV,leVs,keepP,liveP,wfE,wfB,wfV,wfL]
 simp only [br, decide_eq_true_eq, decide_eq_false_iff_not]
 refine fun hm => ⟨fun h => ⟨⟨by omega, h⟩, by omega, ?_⟩, fun h => ?_⟩
 ·have hk1 : k < arcs.length := by omega
  have hk2 : k < flow.length := by omega
  have hfk := hf flow[k] (yE hk2)
  have hvb := valTo_bound arcs node flow hf k
  have hst := valTo_step (node := node) hk1 hk2
  simp only [lo, hi, beq_iff_eq, beq_eq_false_iff_ne]
  repeat' (first | (refine ⟨(k+1 : _), ?_⟩) | (refine ⟨by omega, ?_⟩) | (refine And.intro ?_ ?_) | (refine (fun _ => ?_)))
  all_goals first | omega | grind
 ·have : k = arcs.length := by omega
  rw [this]
theorem ok72 (n : Int) (arcs : List Arc) (flow : List Int) (hl : flow.length = arcs.length) (hb : arcs.length ≤ 2048) (hf : ∀ x ∈ flow, 0 ≤ x ∧ x ≤ 1073741824) (ha : ∀ a ∈ arcs, 0 ≤ a.cost ∧ a.cost ≤ 1048576) : Ok 72 [net n arcs, li flow] (Is (.i (totTo arcs flow arcs.length))) := by
 refine ok_of lw72 (by simp) ?_
 unfold c72 net li
 simp -implicitDefEqProofs only [rX,↓rY,ofConst,cells?,↓reduceIte,freshP,cxN,args0]
 refine loopP_intro (fun k : Nat => ⟨[(6, .i k), (5, .i (totTo arcs flow k)), (2, .ptr 0 0 0), (1, .ro 1 (flow.map encI))], [.var [.i n, .ro 4 (arcs.map Arc.enc)]], 0⟩) (fun k => k ≤ arcs.length) (fun k => arcs.length - k) 0 (by simp) ?_ ?_
 ·simp -implicitDefEqProofs only [rX,↓reduceIte,Nat.reduceEqDiff,reduceCtorEq,leE,leH,leB,leV,leVs,keepP,liveP,wfE,wfB,wfV,wfL,leVs,leV,totTo,yF]
 intro k hk
 simp -implicitDefEqProofs only [rX,↓rY,rZ,ofConst,↓reduceIte,Nat.reduceEqDiff,resP,tupV,leE,leH,leB,leV,leVs,keepP,liveP,wfE,wfB,wfV,wfL]
 simp only [br, decide_eq_true_eq, decide_eq_false_iff_not]
 refine fun hm => ⟨fun h => ⟨⟨by omega, h⟩, by omega, ?_⟩, fun h => ?_⟩
 ·have hk1 : k < arcs.length := by omega
  have hk2 : k < flow.length := by omega
  have hfk := hf flow[k] (yE hk2)
  have hak := ha arcs[k] (yE hk1)
  have hvb := totTo_bound arcs flow hf ha k
  have hst := totTo_step hk1 hk2
  have hmb := mul_b hfk hak
  simp only [lo, hi, beq_iff_eq, beq_eq_false_iff_ne]
  repeat' (first | (refine ⟨(k+1 : _), ?_⟩) | (refine ⟨by omega, ?_⟩) | (refine And.intro ?_ ?_) | (refine (fun _ => ?_)))
  all_goals first | omega | exact hst.symm
 ·have : k = arcs.length := by omega
  rw [this]
def fewB (n : Int) (arcs : List Arc) (most : Int) : Bool := decide (n ≤ 12 ∧ arcs.length ≤ 30 ∧ checkI n arcs = 0) && arcs.all fun a => decide (a.cap ≤ most)
end Go.Fx.P.K
namespace Go.Fx.P.K
open Go Go.Fx Go.Proofs
set_option maxRecDepth 20000
structure OkF (n : Int) (arcs : List Arc) (f t : Int) (flow : List Int) : Prop where
 hl : flow.length = arcs.length
 hp : possP arcs flow
 hz : ∀ j : Int, 0 ≤ j → j < n → j ≠ f → j ≠ t → valTo arcs j flow arcs.length = 0
open Classical in
noncomputable def flB (n : Int) (arcs : List Arc) (f t : Int) (flow : List Int) : Bool := decide (OkF n arcs f t flow)
theorem flB_t {n : Int} {arcs : List Arc} {f t : Int} {flow : List Int} (h : OkF n arcs f t flow) : true = flB n arcs f t flow := by simp [flB, h]
theorem flB_f {n : Int} {arcs : List Arc} {f t : Int} {flow : List Int} (h : ¬ OkF n arcs f t flow) : false = flB n arcs f t flow := by simp [flB, h]
structure PInv (arcs : List Arc) (flow : List Int) (k : Nat) : Prop where
 h : ∀ j (h1 : j < flow.length) (h2 : j < arcs.length), j < k → 0 ≤ flow[j] ∧ flow[j] ≤ arcs[j].cap
structure ZInv (arcs : List Arc) (f t : Int) (flow : List Int) (k : Nat) : Prop where
 h : ∀ j : Nat, j < k → ((j : Int) ≠ f → (j : Int) ≠ t → valTo arcs j flow arcs.length = 0)
theorem ok70 (N : Nat) (arcs : List Arc) (f t : Int) (flow : List Int) (hV : Val N arcs) : Ok 70 [net N arcs, .i f, .i t, li flow] (Is (.b (flB N arcs f t flow))) := by
 refine ok_of lw70 (by simp) ?_
 unfold c70 net li
 simp -implicitDefEqProofs only [rX,↓rY,ofConst,cells?,↓reduceIte,Nat.reduceEqDiff,Nat.reduceAdd,reduceCtorEq,freshP,resP,tupV,wfV,cxN,args0]
 simp only [br, decide_eq_true_eq, decide_eq_false_iff_not, bne_iff_ne, bne_eq_false_iff_eq]
 refine fun hm1 hm2 => ⟨fun h => flB_f fun hO => ?_, fun h => ?_⟩
 ·have := hO.hl; omega
 have hl : flow.length = arcs.length := by omega
 have hL := hV.hl
 have hN := hV.hn
 refine loopP_intro (fun k : Nat => ⟨[(9, .i k), (4, .ptr 0 0 0), (3, .ro 1 (flow.map encI)), (2, .i t), (1, .i f)], [.var [.i N, .ro 4 (arcs.map Arc.enc)]], 0⟩) (fun k => k ≤ arcs.length ∧ PInv arcs flow k) (fun k => arcs.length - k) 0 ⟨by omega, ⟨by simp⟩⟩ ?_ ?_
 ·simp -implicitDefEqProofs only [rX,↓reduceIte,Nat.reduceEqDiff,reduceCtorEq,leE,leH,leB,leV,leVs,keepP,liveP,wfE,wfB,wfV,wfL,leVs,leV,yF]
 rintro k ⟨hk, hv⟩
 simp -implicitDefEqProofs only [rX,↓rY,rZ,ofConst,↓reduceIte,Nat.reduceEqDiff,resP,tupV,leE,leH,leB,leV,leVs,keepP,liveP,wfE,wfB,wfV,wfL]
 simp only [br, decide_eq_true_eq, decide_eq_false_iff_not]
 refine fun _ => ⟨fun h2 => ?_, fun h2 => ?_⟩
 ·have hk1 : k < arcs.length := by omega
  have hk2 : k < flow.length := by omega
  have bad : ¬ (0 ≤ flow[k] ∧ flow[k] ≤ arcs[k].cap) → false = flB N arcs f t flow := fun h => flB_f fun hO => h (hO.hp k hk2 hk1)
  have good : (0 ≤ flow[k] ∧ flow[k] ≤ arcs[k].cap) → PInv arcs flow (k + 1) := by
   refine fun hx => ⟨fun j h3 h4 h5 => ?_⟩
   by_cases h6 : j = k
   ·subst h6; exact hx
   ·exact hv.h j h3 h4 (by omega)
  simp only [lo, hi, maxLen] at *
  repeat' (first | (refine ⟨(k+1 : _), ?_⟩) | (refine ⟨by omega, ?_⟩) | (refine And.intro ?_ ?_) | (refine (fun _ => ?_)))
  all_goals first | omega | (apply bad; omega) | (apply good; omega)
 have hp : possP arcs flow := fun i h3 h4 => hv.h i h3 h4 (by omega)
 have hf := hV.flow hl hp
 refine loopP_intro (fun k : Nat => ⟨[(10, .i k), (4, .ptr 0 0 0), (3, .ro 1 (flow.map encI)), (2, .i t), (1, .i f)], [.var [.i N, .ro 4 (arcs.map Arc.enc)]], 0⟩) (fun k => k ≤ N ∧ ZInv arcs f t flow k) (fun k => N - k) 0 ⟨by omega, ⟨by simp⟩⟩ ?_ ?_
 ·simp -implicitDefEqProofs only [rX,↓reduceIte,Nat.reduceEqDiff,leE,leH,leB,leV,leVs,keepP,liveP,wfE,wfB,wfV,wfL,leVs,leV,yF]
 rintro k ⟨hk, hv⟩
 simp -implicitDefEqProofs only [rX,↓rY,ofConst,↓reduceIte,Nat.reduceEqDiff,Nat.reduceAdd,resP,tupV,leE,leH,leB,leV,leVs,keepP,liveP,wfE,wfB,wfV,wfL]
 simp only [br, decide_eq_true_eq, decide_eq_false_iff_not, bne_iff_ne, bne_eq_false_iff_eq]
 have hnx : ((k : Int) ≠ f → (k : Int) ≠ t → valTo arcs k flow arcs.length = 0) → ZInv arcs f t flow (k + 1) := by
  refine fun h4 => ⟨fun j hj => ?_⟩
  by_cases h6 : j = k
  ·subst h6; exact h4
  ·exact hv.h j (by omega)
 refine ⟨fun h3 => ⟨fun h1 => ⟨fun h2 => ?_, fun h2 => ?_⟩, fun h1 => ?_⟩, fun h3 => ?_⟩
 ·refine call_is (ok71 N k arcs flow hl (by omega) hf) (by simp [net, li, lendsOk, lendOk, lends, lend, wkL, wk, wkR]) rfl trivial ?_
  simp -implicitDefEqProofs only [rX,↓rY,ofConst,↓reduceIte,Nat.reduceEqDiff,resP,tupV,leE,leH,leB,leV,leVs,keepP,liveP,wfE,wfB,wfV,wfL]
  simp only [br, decide_eq_true_eq, decide_eq_false_iff_not, bne_iff_ne, bne_eq_false_iff_eq, lo, hi]
  refine ⟨fun h5 => flB_f fun hO => h5 (hO.hz k (by omega) (by omega) h1 h2), fun h5 => ?_⟩
  repeat' (first | (refine ⟨(k+1 : _), ?_⟩) | (refine ⟨by omega, ?_⟩) | (refine And.intro ?_ ?_) | (refine (fun _ => ?_)))
  all_goals first | omega | exact hnx fun _ _ => h5
 ·simp only [lo, hi]
  repeat' (first | (refine ⟨(k+1 : _), ?_⟩) | (refine ⟨by omega, ?_⟩) | (refine And.intro ?_ ?_) | (refine (fun _ => ?_)))
  all_goals first | omega | exact hnx fun _ h => absurd h2 h
 ·simp only [lo, hi]
  repeat' (first | (refine ⟨(k+1 : _), ?_⟩) | (refine ⟨by omega, ?_⟩) | (refine And.intro ?_ ?_) | (refine (fun _ => ?_)))
  all_goals first | omega | exact hnx fun h _ => absurd h1 h
 ·refine flB_t ⟨hl, hp, fun j h1 h2 h4 h6 => ?_⟩
  have := (hv.h j.toNat (by omega))
  rw [vJ h1] at this
  exact this h4 h6
def hasB (l : List Int) (x : Int) : Bool := decide (x ∈ l)
structure NInv (l : List Int) (x : Int) (k : Nat) : Prop where
 h : ∀ j (h1 : j < l.length), j < k → l[j] ≠ x
theorem ok97 (l : List Int) (x : Int) : Ok 97 [li l, .i x] (Is (.b (hasB l x))) := by
 refine ok_of lw97 (by simp) ?_
 unfold c97 li
 simp -implicitDefEqProofs only [rX,ofConst,cxN,args0]
 refine loopP_intro (fun k : Nat => ⟨[(5, .i k), (1, .i x), (0, .ro 1 (l.map encI))], [], 0⟩) (fun k => k ≤ l.length ∧ NInv l x k) (fun k => l.length - k) 0 ⟨by omega, ⟨by simp⟩⟩ ?_ ?_
 ·simp -implicitDefEqProofs only [rX,↓reduceIte,Nat.reduceEqDiff,reduceCtorEq,leE,leH,keepP,wfE,wfB,wfV,yF]
 rintro k ⟨hk, hv⟩
 simp -implicitDefEqProofs only [rX,↓rY,rZ,ofConst,↓reduceIte,Nat.reduceEqDiff,reduceCtorEq,resP,tupV,leE,leH,keepP,wfE,wfB,wfV]
 simp only [br, decide_eq_true_eq, decide_eq_false_iff_not, beq_iff_eq, beq_eq_false_iff_ne]
 refine fun _ => ⟨fun h2 => ⟨⟨by omega, h2⟩, by omega, fun h3 => ?_, fun h3 => ⟨by simp only [lo, hi, maxLen] at *; omega, k + 1, ⟨⟨by omega, ⟨fun j hj h2 => ?_⟩⟩, by omega⟩, by simp⟩⟩, fun h2 => ?_⟩
 ·have : x ∈ l := by rw [← h3]; exact yE _
  simp [hasB, this]
 ·by_cases h6 : j = k
  ·subst h6; exact h3
  ·exact hv.h j hj (by omega)
 ·have : ¬ x ∈ l := by
   intro hx
   obtain ⟨j, hj, rfl⟩ := yT hx
   exact hv.h j hj (by omega) rfl
  simp [hasB, this]
structure OkP (N : Nat) (arcs : List Arc) (f : Int) (flow price : List Int) : Prop where
 hl : price.length = N
 h0 : price.getD f.toNat 0 = 0
 hb : ∀ j (h : j < price.length), 0 ≤ price[j] ∧ price[j] ≤ 1073741824
 ha : ∀ k (h : k < arcs.length), (arcs[k].cost + price.getD arcs[k].from_.toNat 0 - price.getD arcs[k].to.toNat 0 < 0 → arcs[k].cap ≤ flow.getD k 0) ∧ (0 < arcs[k].cost + price.getD arcs[k].from_.toNat 0 - price.getD arcs[k].to.toNat 0 → flow.getD k 0 ≤ 0)
open Classical in
noncomputable def prB (N : Nat) (arcs : List Arc) (f : Int) (flow price : List Int) : Bool := decide (OkP N arcs f flow price)
theorem prB_t {N : Nat} {arcs : List Arc} {f : Int} {flow price : List Int} (h : OkP N arcs f flow price) : true = prB N arcs f flow price := by simp [prB, h]
theorem prB_f {N : Nat} {arcs : List Arc} {f : Int} {flow price : List Int} (h : ¬ OkP N arcs f flow price) : false = prB N arcs f flow price := by simp [prB, h]
theorem getD_at {l : List Int} {i : Int} (h : 0 ≤ i ∧ i < l.length) : l.getD i.toNat 0 = l[i.toNat]'(by omega) := by
 rw [yA, yD (by omega)]; rfl
theorem getD_nat {l : List Int} {k : Nat} (h : k < l.length) : l.getD k 0 = l[k] := by
 rw [yA, yD h]; rfl
structure BInv (price : List Int) (k : Nat) : Prop where
 h : ∀ j (h : j < price.length), j < k → 0 ≤ price[j] ∧ price[j] ≤ 1073741824
structure RInv (arcs : List Arc) (flow price : List Int) (k : Nat) : Prop where
 h : ∀ k' (h : k' < arcs.length), k' < k → (arcs[k'].cost + price.getD arcs[k'].from_.toNat 0 - price.getD arcs[k'].to.toNat 0 < 0 → arcs[k'].cap ≤ flow.getD k' 0) ∧ (0 < arcs[k'].cost + price.getD arcs[k'].from_.toNat 0 - price.getD arcs[k'].to.toNat 0 → flow.getD k' 0 ≤ 0)
theorem RInv.next {arcs : List Arc} {flow price : List Int} {k : Nat} (hv : RInv arcs flow price k) (hk : k < arcs.length) (h : (arcs[k].cost + price.getD arcs[k].from_.toNat 0 - price.getD arcs[k].to.toNat 0 < 0 → arcs[k].cap ≤ flow.getD k 0) ∧ (0 < arcs[k].cost + price.getD arcs[k].from_.toNat 0 - price.getD arcs[k].to.toNat 0 → flow.getD k 0 ≤ 0)) : RInv arcs flow price (k + 1) := by
 refine ⟨fun j hj h2 => ?_⟩
 by_cases h6 : j = k
 ·subst h6; exact h
 ·exact hv.h j hj (by omega)
theorem ok73 (N : Nat) (arcs : List Arc) (f : Int) (fr : Fr) (hV : Val N arcs) (hf : 0 ≤ f ∧ f < N) (hl : fr.flow.length = arcs.length) : Ok 73 [net N arcs, .i f, fr.enc] (Is (.b (prB N arcs f fr.flow fr.price))) := by
 refine ok_of lw73 (by simp) ?_
 unfold c73 net Fr.enc li
 simp -implicitDefEqProofs only [rX,↓rY,rZ,ofConst,cells?,↓reduceIte,Nat.reduceEqDiff,Nat.reduceAdd,reduceCtorEq,freshP,resP,tupV,wfV,cxN,args0]
 simp only [br, decide_eq_true_eq, decide_eq_false_iff_not, bne_iff_ne, bne_eq_false_iff_eq]
 have hL := hV.hl
 have hN := hV.hn
 refine fun hm1 => ⟨fun h => prB_f fun hO => ?_, fun h => ?_⟩
 ·have := hO.hl; omega
 have hpl : fr.price.length = N := by omega
 refine ⟨⟨hf.1, by omega⟩, by omega, fun h0 => prB_f fun hO => ?_, fun h0 => ?_⟩
 ·have := hO.h0
  rw [getD_at (by omega)] at this
  exact h0 this
 refine loopP_intro (fun k : Nat => ⟨[(7, .i k), (5, .ptr 1 0 0), (3, .ptr 0 0 0), (1, .i f)], [.var [.i N, .ro 4 (arcs.map Arc.enc)], .var [.i fr.sent, .i fr.cost, .ro 1 (fr.flow.map encI), .ro 1 (fr.price.map encI), .ro 1 (fr.cut.map encI)]], 0⟩) (fun k => k ≤ N ∧ BInv fr.price k) (fun k => N - k) 0 ⟨by omega, ⟨by simp⟩⟩ ?_ ?_
 ·simp -implicitDefEqProofs only [rX,↓reduceIte,Nat.reduceEqDiff,reduceCtorEq,leE,leH,leB,leV,leVs,keepP,liveP,wfE,wfB,wfV,wfL,leVs,leV,yF]
 rintro k ⟨hk, hv⟩
 simp -implicitDefEqProofs only [rX,↓rY,rZ,ofConst,↓reduceIte,Nat.reduceEqDiff,Nat.reduceAdd,resP,tupV,leE,leH,leB,leV,leVs,keepP,liveP,wfE,wfB,wfV,wfL]
 simp only [br, decide_eq_true_eq, decide_eq_false_iff_not]
 refine ⟨fun h2 => ?_, fun h2 => ?_⟩
 ·have hk1 : k < fr.price.length := by omega
  have bad : ¬ (0 ≤ fr.price[k] ∧ fr.price[k] ≤ 1073741824) → false = prB N arcs f fr.flow fr.price := fun h => prB_f fun hO => h (hO.hb k hk1)
  have good : (0 ≤ fr.price[k] ∧ fr.price[k] ≤ 1073741824) → BInv fr.price (k + 1) := by
   refine fun hx => ⟨fun j h3 h5 => ?_⟩
   by_cases h6 : j = k
   ·subst h6; exact hx
   ·exact hv.h j h3 (by omega)
  simp only [lo, hi, maxLen] at *
  repeat' (first | (refine ⟨(k+1 : _), ?_⟩) | (refine ⟨by omega, ?_⟩) | (refine And.intro ?_ ?_) | (refine (fun _ => ?_)))
  all_goals first | omega | (apply bad; omega) | (apply good; omega)
 have hb : ∀ j (h : j < fr.price.length), 0 ≤ fr.price[j] ∧ fr.price[j] ≤ 1073741824 := fun j hj => hv.h j hj (by omega)
 refine loopP_intro (fun k : Nat => ⟨[(8, .i k), (5, .ptr 1 0 0), (3, .ptr 0 0 0), (1, .i f)], [.var [.i N, .ro 4 (arcs.map Arc.enc)], .var [.i fr.sent, .i fr.cost, .ro 1 (fr.flow.map encI), .ro 1 (fr.price.map encI), .ro 1 (fr.cut.map encI)]], 0⟩) (fun k => k ≤ arcs.length ∧ RInv arcs fr.flow fr.price k) (fun k => arcs.length - k) 0 ⟨by omega, ⟨by simp⟩⟩ ?_ ?_
 ·simp -implicitDefEqProofs only [rX,↓reduceIte,Nat.reduceEqDiff,leE,leH,leB,leV,leVs,keepP,liveP,wfE,wfB,wfV,wfL,leVs,leV,yF]
 rintro k ⟨hk, hv⟩
 simp -implicitDefEqProofs only [rX,↓rY,rZ,ofConst,cells?,splice,↓reduceIte,Nat.reduceEqDiff,Nat.reduceAdd,freshP,resP,tupV,leE,leH,leB,leV,leVs,keepP,liveP,wfE,wfB,wfV,wfL]
 simp only [br, decide_eq_true_eq, decide_eq_false_iff_not]
 refine fun hm2 => ⟨fun h2 => ?_, fun h2 => ?_⟩
 ·have hk1 : k < arcs.length := by omega
  have hk2 : k < fr.flow.length := by omega
  have hva := hV.ha arcs[k] (yE hk1)
  have b1 := hb arcs[k].from_.toNat (by omega)
  have b2 := hb arcs[k].to.toNat (by omega)
  have bad : ¬ (_ ∧ _) → false = prB N arcs f fr.flow fr.price := fun h => prB_f fun hO => h (hO.ha k hk1)
  have good := hv.next hk1
  rw [getD_at (by omega), getD_at (by omega), getD_nat hk2] at bad good
  simp only [lo, hi, maxLen] at *
  repeat' (first | (refine ⟨(k+1 : _), ?_⟩) | (refine ⟨by omega, ?_⟩) | (refine And.intro ?_ ?_) | (refine (fun _ => ?_)))
  all_goals first | omega | (apply bad; omega) | (apply good; omega)
 ·refine prB_t ⟨hpl, ?_, hb, fun j hj => hv.h j hj (by omega)⟩
  rw [getD_at (by omega)]; exact h0
end Go.Fx.P.K
namespace Go.Fx.P.K
open Go Go.Fx Go.Proofs
set_option maxRecDepth 20000
structure OkS (n : Int) (cut : List Int) (k : Nat) : Prop where
 h : ∀ j (h : j < cut.length), j < k → (0 ≤ cut[j] ∧ cut[j] < n) ∧ (0 < j → cut.getD (j - 1) 0 < cut[j])
theorem OkS.next {n : Int} {cut : List Int} {k : Nat} (hv : OkS n cut k) (hk : k < cut.length) (h : (0 ≤ cut[k] ∧ cut[k] < n) ∧ (0 < k → cut.getD (k - 1) 0 < cut[k])) : OkS n cut (k + 1) := by
 refine ⟨fun j hj h2 => ?_⟩
 by_cases h6 : j = k
 ·subst h6; exact h
 ·exact hv.h j hj (by omega)
structure OkA (arcs : List Arc) (flow : List Int) (cut : List Int) (k : Nat) : Prop where
 h : ∀ j (h : j < arcs.length), j < k → (hasB cut arcs[j].from_ = true → hasB cut arcs[j].to = false → flow.getD j 0 = arcs[j].cap) ∧ (hasB cut arcs[j].to = true → hasB cut arcs[j].from_ = false → flow.getD j 0 = 0)
theorem OkA.next {arcs : List Arc} {flow cut : List Int} {k : Nat} (hv : OkA arcs flow cut k) (hk : k < arcs.length) (h : (hasB cut arcs[k].from_ = true → hasB cut arcs[k].to = false → flow.getD k 0 = arcs[k].cap) ∧ (hasB cut arcs[k].to = true → hasB cut arcs[k].from_ = false → flow.getD k 0 = 0)) : OkA arcs flow cut (k + 1) := by
 refine ⟨fun j hj h2 => ?_⟩
 by_cases h6 : j = k
 ·subst h6; exact h
 ·exact hv.h j hj (by omega)
structure OkC (n : Int) (arcs : List Arc) (f t : Int) (flow cut : List Int) : Prop where
 hs : OkS n cut cut.length
 hf : hasB cut f = true
 ht : hasB cut t = false
 ha : OkA arcs flow cut arcs.length
open Classical in
noncomputable def cuB (n : Int) (arcs : List Arc) (f t : Int) (flow cut : List Int) : Bool := decide (OkC n arcs f t flow cut)
theorem cuB_t {n : Int} {arcs : List Arc} {f t : Int} {flow cut : List Int} (h : OkC n arcs f t flow cut) : true = cuB n arcs f t flow cut := by simp [cuB, h]
theorem cuB_f {n : Int} {arcs : List Arc} {f t : Int} {flow cut : List Int} (h : ¬ OkC n arcs f t flow cut) : false = cuB n arcs f t flow cut := by simp [cuB, h]
def frB (fr : Fr) : Blk := .var [.i fr.sent, .i fr.cost, .ro 1 (fr.flow.map encI), .ro 1 (fr.price.map encI), .ro 1 (fr.cut.map encI)]
theorem ok74 (N : Nat) (arcs : List Arc) (f t : Int) (fr : Fr) (hV : Val N arcs) (hl : fr.flow.length = arcs.length) : Ok 74 [net N arcs, .i f, .i t, fr.enc] (Is (.b (cuB N arcs f t fr.flow fr.cut))) := by
 refine ok_of lw74 (by simp) ?_
 unfold c74 net Fr.enc li
 simp -implicitDefEqProofs only [rX,↓rY,ofConst,cells?,↓reduceIte,Nat.reduceEqDiff,Nat.reduceAdd,reduceCtorEq,freshP,cxN,args0]
 have hL := hV.hl
 have hN := hV.hn
 refine loopP_intro (fun k : Nat => ⟨[(9, .i k), (7, .ptr 1 0 0), (4, .ptr 0 0 0), (2, .i t), (1, .i f)], [.var [.i N, .ro 4 (arcs.map Arc.enc)], frB fr], 0⟩) (fun k => k ≤ fr.cut.length ∧ OkS N fr.cut k) (fun k => fr.cut.length - k) 0 ⟨by omega, ⟨by simp⟩⟩ ?_ ?_
 ·simp -implicitDefEqProofs only [rX,↓reduceIte,Nat.reduceEqDiff,reduceCtorEq,leE,leH,leB,leV,leVs,keepP,liveP,wfE,wfB,wfV,wfL,leVs,leV,yF,frB]
 rintro k ⟨hk, hv⟩
 simp -implicitDefEqProofs only [rX,↓rY,rZ,rdK,↓reduceIte,Nat.reduceEqDiff,Nat.reduceAdd,frB]
 simp only [br, decide_eq_true_eq, decide_eq_false_iff_not]
 refine fun hm1 => ⟨fun h2 => ?_, fun h2 => ?_⟩
 ·have hk1 : k < fr.cut.length := by omega
  have good := hv.next hk1
  have bad : ¬ ((0 ≤ fr.cut[k] ∧ fr.cut[k] < N) ∧ (0 < k → fr.cut.getD (k - 1) 0 < fr.cut[k])) → false = cuB N arcs f t fr.flow fr.cut := fun h => cuB_f fun hO => h (hO.hs.h k hk1 hk1)
  refine ⟨⟨by omega, h2⟩, by omega, ?_⟩
  refine call_is (ok96 N arcs fr.cut[k]) (by simp [net, lendsOk, lendOk, lends, lend, wkL, wk, wkR]) rfl trivial ?_
  cases hn : nodeB N fr.cut[k] with
  | false =>
   simp -implicitDefEqProofs only [rX,↓rY,rdK,ofConst,↓reduceIte,Nat.reduceEqDiff,Nat.reduceAdd,resP,tupV,wfV]
   simp only [nodeB, decide_eq_false_iff_not] at hn
   exact bad fun h => hn h.1
  | true =>
   simp -implicitDefEqProofs only [rX,↓rY,rZ,rdK,ofConst,↓reduceIte,Nat.reduceEqDiff,Nat.reduceAdd,resP,tupV,leE,leH,leB,leV,leVs,keepP,liveP,wfE,wfB,wfV,wfL]
   simp only [nodeB, decide_eq_true_eq] at hn
   have hp : 0 < k → fr.cut.getD (k - 1) 0 = fr.cut[((k : Int) - 1).toNat]'(by omega) := by
    intro h0
    have e1 : ((k : Int) - 1).toNat = k - 1 := by omega
    simp only [e1]
    exact getD_nat (by omega)
   simp only [br, decide_eq_true_eq, decide_eq_false_iff_not, lo, hi, maxLen] at *
   repeat' (first | (refine ⟨(k+1 : _), ?_⟩) | (refine ⟨by omega, ?_⟩) | (refine And.intro ?_ ?_) | (refine (fun _ => ?_)))
   all_goals first | omega | (apply bad; rintro ⟨_, h4⟩; have h4 := h4 (by omega); rw [hp (by omega)] at h4; omega) | (apply good; refine ⟨hn, fun h0 => ?_⟩; rw [hp h0]; omega) | (apply good; refine ⟨hn, fun h0 => ?_⟩; omega)
 have hs : OkS N fr.cut fr.cut.length := ⟨fun j h _ => hv.h j h (by omega)⟩
 refine call_is (ok97 fr.cut f) (by simp [li, lendsOk, lendOk, lends, lend, wkL, wk, wkR]) rfl trivial ?_
 cases hf : hasB fr.cut f with
 | false =>
  simp -implicitDefEqProofs only [rX,↓rY,ofConst,↓reduceIte,Nat.reduceEqDiff,Nat.reduceAdd,resP,tupV,wfV]
  exact cuB_f fun hO => by have := hO.hf; rw [hf] at this; cases this
 | true =>
 simp -implicitDefEqProofs only [rX,↓rY,↓reduceIte,Nat.reduceEqDiff]
 refine call_is (ok97 fr.cut t) (by simp [li, lendsOk, lendOk, lends, lend, wkL, wk, wkR]) rfl trivial ?_
 cases ht : hasB fr.cut t with
 | true =>
  simp -implicitDefEqProofs only [rX,↓rY,ofConst,↓reduceIte,Nat.reduceEqDiff,Nat.reduceAdd,resP,tupV,wfV]
  exact cuB_f fun hO => by have := hO.ht; rw [ht] at this; cases this
 | false =>
 simp -implicitDefEqProofs only [rX,↓rY,ofConst,↓reduceIte,Nat.reduceEqDiff,Nat.reduceAdd]
 refine loopP_intro (fun k : Nat => ⟨[(10, .i k), (7, .ptr 1 0 0), (4, .ptr 0 0 0)], [.var [.i N, .ro 4 (arcs.map Arc.enc)], frB fr], 0⟩) (fun k => k ≤ arcs.length ∧ OkA arcs fr.flow fr.cut k) (fun k => arcs.length - k) 0 ⟨by omega, ⟨by simp⟩⟩ ?_ ?_
 ·simp -implicitDefEqProofs only [rX,↓reduceIte,Nat.reduceEqDiff,leE,leH,leB,leV,leVs,keepP,liveP,wfE,wfB,wfV,wfL,leVs,leV,yF,frB]
 rintro k ⟨hk, hv⟩
 simp -implicitDefEqProofs only [rX,↓rY,rZ,ofConst,cells?,splice,↓reduceIte,Nat.reduceEqDiff,Nat.reduceAdd,freshP,resP,tupV,wfV,frB]
 simp only [br, decide_eq_true_eq, decide_eq_false_iff_not]
 refine fun hm2 => ⟨fun h2 => ?_, fun h2 => cuB_t ⟨hs, hf, ht, ⟨fun j h _ => hv.h j h (by omega)⟩⟩⟩
 have hk1 : k < arcs.length := by omega
 have hk2 : k < fr.flow.length := by omega
 refine ⟨⟨by omega, h2⟩, by omega, ?_⟩
 have good := hv.next hk1
 have bad : ¬ (_ ∧ _) → false = cuB N arcs f t fr.flow fr.cut := fun h => cuB_f fun hO => h (hO.ha.h k hk1 hk1)
 rw [getD_nat hk2] at good bad
 refine call_is (ok97 fr.cut arcs[k].from_) (by simp [li, lendsOk, lendOk, lends, lend, wkL, wk, wkR]) rfl trivial ?_
 simp -implicitDefEqProofs only [rX,↓rY,rZ,↓reduceIte,Nat.reduceEqDiff,Nat.reduceAdd]
 refine call_is (ok97 fr.cut arcs[k].to) (by simp [li, lendsOk, lendOk, lends, lend, wkL, wk, wkR]) rfl trivial ?_
 generalize hasB fr.cut arcs[k].from_ = x at *
 generalize hasB fr.cut arcs[k].to = y at *
 cases x <;> cases y <;> simp -implicitDefEqProofs only [rX,↓rY,rZ,ofConst,↓reduceIte,Nat.reduceEqDiff,Nat.reduceAdd,resP,tupV,leE,leH,leB,leV,leVs,keepP,liveP,wfE,wfB,wfV,wfL] <;> simp only [br, decide_eq_true_eq, decide_eq_false_iff_not, bne_iff_ne, bne_eq_false_iff_eq, lo, hi, maxLen] at * <;>
  (repeat' (first | (refine ⟨(k+1 : _), ?_⟩) | (refine ⟨by omega, ?_⟩) | (refine And.intro ?_ ?_) | (refine (fun _ => ?_)))) <;> first | omega | (apply bad; simp; omega) | (apply good; simp; try omega)
structure OkAc (N : Nat) (arcs : List Arc) (f t am : Int) (fr : Fr) : Prop where
 fl : OkF N arcs f t fr.flow
 hs : 0 ≤ fr.sent ∧ fr.sent ≤ am
 hv : valTo arcs f fr.flow arcs.length = fr.sent
 ht : totTo arcs fr.flow arcs.length = fr.cost
 hp : OkP N arcs f fr.flow fr.price
 hc : if fr.sent = am then fr.cut = [] else OkC N arcs f t fr.flow fr.cut
open Classical in
noncomputable def accI (N : Nat) (arcs : List Arc) (f t am : Int) (fr : Fr) : Int := if OkAc N arcs f t am fr then 0 else 110
theorem accI_t {N : Nat} {arcs : List Arc} {f t am : Int} {fr : Fr} (h : OkAc N arcs f t am fr) : 0 = accI N arcs f t am fr := by simp [accI, h]
theorem accI_f {N : Nat} {arcs : List Arc} {f t am : Int} {fr : Fr} (h : ¬ OkAc N arcs f t am fr) : 110 = accI N arcs f t am fr := by simp [accI, h]
theorem ok49 (N : Nat) (arcs : List Arc) (f t am : Int) (fr : Fr) (hV : Val N arcs) (hf : 0 ≤ f ∧ f < N) : Ok 49 [net N arcs, .i f, .i t, .i am, fr.enc] (Is (.i (accI N arcs f t am fr))) := by
 refine ok_of lw49 (by simp) ?_
 unfold c49 net Fr.enc li
 have hL := hV.hl
 have hN := hV.hn
 have hac := fun a ha => (hV.ha a ha).2.2.2.2
 simp -implicitDefEqProofs only [rX,↓rY,ofConst,cells?,↓reduceIte,Nat.reduceEqDiff,Nat.reduceAdd,reduceCtorEq,freshP,cxN,args0]
 refine call_is (ok70 N arcs f t fr.flow hV) (by simp [net, li, lendsOk, lendOk, lends, lend, wkL, wk, wkR]) rfl trivial ?_
 cases hfl : flB N arcs f t fr.flow with
 | false =>
  simp -implicitDefEqProofs only [rX,↓rY,rdK,ofConst,↓reduceIte,Nat.reduceEqDiff,Nat.reduceAdd,resP,tupV,wfV]
  exact accI_f fun hO => by have := flB_t hO.fl; rw [hfl] at this; cases this
 | true =>
 have hfl : OkF N arcs f t fr.flow := by
  apply Classical.byContradiction
  intro h
  have := flB_f h; rw [hfl] at this; cases this
 have hl := hfl.hl
 have hfb := hV.flow hl hfl.hp
 simp -implicitDefEqProofs only [rX,↓rY,rdK,ofConst,↓reduceIte,Nat.reduceEqDiff,Nat.reduceAdd,reduceCtorEq,resP,tupV,wfV]
 simp only [br, decide_eq_true_eq, decide_eq_false_iff_not]
 refine ⟨fun h => accI_f fun hO => by have := hO.hs; omega, fun h0 => ⟨fun h => accI_f fun hO => by have := hO.hs; omega, fun h1 => ?_⟩⟩
 refine call_is (ok71 N f arcs fr.flow hl (by omega) hfb) (by simp [net, li, lendsOk, lendOk, lends, lend, wkL, wk, wkR]) rfl trivial ?_
 simp -implicitDefEqProofs only [rX,↓rY,rdK,ofConst,↓reduceIte,Nat.reduceEqDiff,Nat.reduceAdd,resP,tupV,wfV]
 simp only [br, bne_iff_ne, bne_eq_false_iff_eq]
 refine ⟨fun h => accI_f fun hO => h hO.hv, fun h2 => ?_⟩
 refine call_is (ok72 N arcs fr.flow hl hL hfb hac) (by simp [net, li, lendsOk, lendOk, lends, lend, wkL, wk, wkR]) rfl trivial ?_
 simp -implicitDefEqProofs only [rX,↓rY,rdK,ofConst,↓reduceIte,Nat.reduceEqDiff,Nat.reduceAdd,reduceCtorEq,resP,tupV,wfV]
 simp only [br, bne_iff_ne, bne_eq_false_iff_eq]
 refine ⟨fun h => accI_f fun hO => h hO.ht, fun h3 => ?_⟩
 refine call_is (ok73 N arcs f fr hV hf hl) (by simp [Fr.enc, net, li, lendsOk, lendOk, lends, lend, wkL, wk, wkR]) rfl trivial ?_
 cases hp : prB N arcs f fr.flow fr.price with
 | false =>
  simp -implicitDefEqProofs only [rX,↓rY,ofConst,↓reduceIte,Nat.reduceEqDiff,Nat.reduceAdd,resP,tupV,wfV]
  exact accI_f fun hO => by have := prB_t hO.hp; rw [hp] at this; cases this
 | true =>
 have hp : OkP N arcs f fr.flow fr.price := by
  apply Classical.byContradiction
  intro h
  have := prB_f h; rw [hp] at this; cases this
 simp -implicitDefEqProofs only [rX,↓rY,ofConst,↓reduceIte,Nat.reduceEqDiff,Nat.reduceAdd,reduceCtorEq,resP,tupV,wfV]
 simp only [br, beq_iff_eq, beq_eq_false_iff_ne, decide_eq_true_eq, decide_eq_false_iff_not]
 refine ⟨fun h4 => ?_, fun h4 => ?_⟩
 ·refine fun _ => ⟨fun h5 => accI_f fun hO => ?_, fun h5 => accI_t ⟨hfl, by omega, h2, h3, hp, ?_⟩⟩
  ·have := hO.hc
   rw [if_pos h4] at this
   rw [this] at h5
   simp at h5
  ·rw [if_pos h4]
   exact List.length_eq_zero_iff.1 (by omega)
 ·refine call_is (ok74 N arcs f t fr hV hl) (by simp [Fr.enc, net, li, lendsOk, lendOk, lends, lend, wkL, wk, wkR]) rfl trivial ?_
  cases hc : cuB N arcs f t fr.flow fr.cut with
  | false =>
   simp -implicitDefEqProofs only [rX,↓rY,ofConst,↓reduceIte,Nat.reduceAdd,resP,tupV,wfV]
   exact accI_f fun hO => by have h6 := hO.hc; rw [if_neg h4] at h6; have := cuB_t h6; rw [hc] at this; cases this
  | true =>
  have hc : OkC N arcs f t fr.flow fr.cut := by
   apply Classical.byContradiction
   intro h
   have := cuB_f h; rw [hc] at this; cases this
  simp -implicitDefEqProofs only [rX,↓rY,ofConst,↓reduceIte,Nat.reduceAdd,resP,tupV,wfV]
  exact accI_t ⟨hfl, by omega, h2, h3, hp, by rw [if_neg h4]; exact hc⟩
end Go.Fx.P.K
namespace Go.Fx.P
open Go Go.Fx Go.Proofs
set_option maxRecDepth 20000
theorem netOf_len {ps : List Spot} {rs : List Road} : (netOf ps rs).length = ps.length + (ofN ps 1 ps.length).length + (ofN ps 3 ps.length).length + rs.length := by
 simp only [netOf, nA4, nA3, nA2, nA1, yH, yP, yQ]
def nN (ps : List Spot) : Nat := 2 + 2 * ps.length
theorem nN_eq (ps : List Spot) : nodes ps = (nN ps : Int) := by simp only [nodes, nN]; omega
theorem net_val {ps : List Spot} {rs : List Road} (h : chkP ps rs = 0) : K.Val (nN ps) (netOf ps rs) := by
 obtain ⟨⟨hl, hr⟩, hc, hv⟩ := chk_caps h
 have hlen := nA4_len (ps := ps) (l := rs)
 refine ⟨by simp only [nN]; omega, by simp only [netOf]; omega, fun a ha => ?_⟩
 simp only [netOf, nA4, nA3, nA2, nA1, uB, yI, yK] at ha
 simp only [nN]
 rcases ha with ((⟨i, hi, rfl⟩ | ⟨i, hi, rfl⟩) | ⟨i, hi, rfl⟩) | ⟨r, hr2, rfl⟩
 ·have := capAt_b hc i
  simp only [aP]; omega
 ·have := capAt_b hc i
  have := ofN_mem hi
  simp only [aS]; omega
 ·have := capAt_b hc i
  have := ofN_mem hi
  simp only [aO]; omega
 ·obtain ⟨j, hj, rfl⟩ := yT hr2
  obtain ⟨h1, h2, h3, h4, h5, _⟩ := hv.h j hj hj
  simp only [aR]; omega
def FewP (ps : List Spot) (rs : List Road) : Prop := chkP ps rs = 0 ∧ ps.length ≤ 10 ∧ rs.length ≤ 25
open Classical in
noncomputable def fewB (ps : List Spot) (rs : List Road) : Bool := decide (FewP ps rs)
theorem ok19 (ps : List Spot) (rs : List Road) : Ok 19 [plant ps rs] (Is (.b (fewB ps rs))) := by
 refine ok_of lw19 (by simp) ?_
 unfold c19 plant sps rds
 simp -implicitDefEqProofs only [rX,↓rY,ofConst,cells?,↓reduceIte,Nat.reduceEqDiff,Nat.reduceAdd,freshP,cxN,args0]
 refine call_is (ok12 ps rs) (by simp [plant, sps, rds, lendsOk, lendOk, lends, lend, wkL, wk, wkR]) rfl trivial ?_
 simp -implicitDefEqProofs only [rX,↓rY,ofConst,↓reduceIte,Nat.reduceEqDiff,resP,tupV,wfV]
 simp only [br, beq_iff_eq, beq_eq_false_iff_ne, decide_eq_true_eq, decide_eq_false_iff_not]
 have ht : FewP ps rs → true = fewB ps rs := fun h => by simp [fewB, h]
 have hf : ¬ FewP ps rs → false = fewB ps rs := fun h => by simp [fewB, h]
 have he : ∀ t : Bool, (t = true ↔ FewP ps rs) → t = fewB ps rs := fun t h => by
  cases t
  ·exact hf fun h2 => by have := h.2 h2; cases this
  ·exact ht (h.1 rfl)
 repeat' (first | (with_reducible refine And.intro ?_ ?_) | (with_reducible refine fun _ => ?_))
 all_goals first
  | (apply he; simp only [FewP, decide_eq_true_eq]; omega)
  | (apply hf; simp only [FewP]; omega)
  | (apply ht; simp only [FewP]; omega)
open Classical in
noncomputable def racc (ps : List Spot) (rs : List Road) (fr : Fr) : Int := if chkP ps rs = 0 then K.accI (nN ps) (netOf ps rs) 0 1 (dem ps) fr else chkP ps rs
theorem ok21 (ps : List Spot) (rs : List Road) (fr : Fr) : Ok 21 [plant ps rs, fr.enc] (Is (.i (racc ps rs fr))) := by
 refine ok_of lw21 (by simp) ?_
 unfold c21 plant sps rds Fr.enc li
 simp -implicitDefEqProofs only [rX,↓rY,ofConst,cells?,↓reduceIte,Nat.reduceEqDiff,Nat.reduceAdd,reduceCtorEq,freshP,cxN,args0]
 refine call_is (ok12 ps rs) (by simp [plant, sps, rds, lendsOk, lendOk, lends, lend, wkL, wk, wkR]) rfl trivial ?_
 by_cases hc : chkP ps rs = 0
 ·obtain ⟨⟨hl, hr⟩, hcap, hv⟩ := chk_caps hc
  simp -implicitDefEqProofs only [rX,↓rY,rdK,ofConst,↓reduceIte,Nat.reduceEqDiff,Nat.reduceAdd,resP,tupV,wfV,hc,bne_self_eq_false]
  refine call_is (ok16 ps rs hl hr hv) (by simp [plant, sps, rds, lendsOk, lendOk, lends, lend, wkL, wk, wkR]) rfl trivial ?_
  simp -implicitDefEqProofs only [rX,↓reduceIte,Nat.reduceEqDiff]
  refine call_is (ok18 ps rs hl hcap) (by simp [plant, sps, rds, lendsOk, lendOk, lends, lend, wkL, wk, wkR]) rfl trivial ?_
  simp -implicitDefEqProofs only [rX,ofConst,↓reduceIte,Nat.reduceEqDiff]
  have e := K.ok49 (nN ps) (netOf ps rs) 0 1 (dem ps) fr (net_val hc) ⟨by omega, by simp only [nN]; omega⟩
  rw [← nN_eq] at e
  refine call_is e (by simp [net, li, Fr.enc, lendsOk, lendOk, lends, lend, wkL, wk, wkR]) rfl trivial ?_
  simp -implicitDefEqProofs only [rX,↓reduceIte,resP,tupV,wfV]
  simp [racc, hc]
 ·have hb : (chkP ps rs != 0) = true := by simpa using hc
  simp -implicitDefEqProofs only [rX,↓rY,rdK,ofConst,↓reduceIte,Nat.reduceEqDiff,Nat.reduceAdd,resP,tupV,wfV,hb]
  simp [racc, hc]
theorem ok32 (ps : List Spot) (rs : List Road) (fr : Fr) : Ok 32 [plant ps rs, fr.enc] (Is (.b (racc ps rs fr == 0))) := by
 refine ok_of lw32 (by simp) ?_
 unfold c32 plant sps rds Fr.enc li
 simp -implicitDefEqProofs only [rX,↓rY,ofConst,cells?,↓reduceIte,Nat.reduceEqDiff,Nat.reduceAdd,reduceCtorEq,freshP,cxN,args0]
 refine call_is (ok21 ps rs fr) (by simp [plant, sps, rds, li, Fr.enc, lendsOk, lendOk, lends, lend, wkL, wk, wkR]) rfl trivial ?_
 simp -implicitDefEqProofs only [rX,↓rY,ofConst,↓reduceIte,Nat.reduceAdd,resP,tupV,wfV]
structure IsPlan (ps : List Spot) (rs : List Road) (fr : Fr) : Prop where
 chk : chkP ps rs = 0
 few : ps.length ≤ 10 ∧ rs.length ≤ 25
 acc : K.OkAc (nN ps) (netOf ps rs) 0 1 (dem ps) fr
theorem IsPlan.of {ps : List Spot} {rs : List Road} {fr : Fr} (h : FewP ps rs) (h2 : racc ps rs fr = 0) : IsPlan ps rs fr := by
 refine ⟨h.1, h.2, ?_⟩
 rw [racc, if_pos h.1, K.accI] at h2
 by_cases h3 : K.OkAc (nN ps) (netOf ps rs) 0 1 (dem ps) fr
 ·exact h3
 ·rw [if_neg h3] at h2; cases h2
set_option maxRecDepth 20000
def sumI (f : Nat → Int) : Nat → Int
 | 0 => 0
 | k + 1 => sumI f k + f k
theorem sumI_add {f : Nat → Int} (a : Nat) : ∀ b, sumI f (a + b) = sumI f a + sumI (fun i => f (a + i)) b
 | 0 => by simp [sumI]
 | b + 1 => by
  rw [← Nat.add_assoc, sumI, sumI_add a b, sumI]; omega
theorem sumI_congr {f g : Nat → Int} : ∀ {n : Nat}, (∀ i, i < n → f i = g i) → sumI f n = sumI g n
 | 0, _ => rfl
 | n + 1, h => by rw [sumI, sumI, sumI_congr fun i hi => h i (by omega), h n (by omega)]
theorem sumI_zero {f : Nat → Int} : ∀ {n : Nat}, (∀ i, i < n → f i = 0) → sumI f n = 0
 | 0, _ => rfl
 | n + 1, h => by rw [sumI, sumI_zero fun i hi => h i (by omega), h n (by omega)]; rfl
theorem sumI_plus {f g : Nat → Int} : ∀ {n : Nat}, sumI (fun i => f i + g i) n = sumI f n + sumI g n
 | 0 => rfl
 | n + 1 => by rw [sumI, sumI, sumI, sumI_plus]; omega
theorem sumI_neg {f : Nat → Int} : ∀ {n : Nat}, sumI (fun i => - f i) n = - sumI f n
 | 0 => rfl
 | n + 1 => by rw [sumI, sumI, sumI_neg]; omega
theorem sumI_le {f g : Nat → Int} : ∀ {n : Nat}, (∀ i, i < n → f i ≤ g i) → sumI f n ≤ sumI g n
 | 0, _ => yU _
 | n + 1, h => by
  have h1 := sumI_le (f := f) (g := g) (n := n) fun i hi => h i (by omega)
  have h2 := h n (by omega)
  rw [sumI, sumI]; omega
theorem sumI_nn {f : Nat → Int} {n : Nat} (h : ∀ i, i < n → 0 ≤ f i) : 0 ≤ sumI f n := by
 have := sumI_le (f := fun _ => 0) (g := f) h
 rwa [sumI_zero fun _ _ => rfl] at this
theorem sumI_one {f : Nat → Int} {i : Nat} : ∀ {n : Nat}, i < n → sumI (fun k => if k = i then f k else 0) n = f i
 | n + 1, h => by
  rw [sumI]
  by_cases hi : n = i
  ·subst hi
   rw [if_pos rfl, sumI_zero fun k hk => if_neg (by omega)]; omega
  ·rw [if_neg hi, sumI_one (by omega)]; omega
theorem sumI_swap {g : Nat → Nat → Int} {m : Nat} : ∀ {n : Nat}, sumI (fun i => sumI (g i) m) n = sumI (fun k => sumI (fun i => g i k) n) m
 | 0 => (sumI_zero fun _ _ => rfl).symm
 | n + 1 => by
  rw [sumI, sumI_swap, ← sumI_plus]
  rfl
theorem sumI_part {f : Nat → Int} {p : Nat → Nat} {n m : Nat} (hp : ∀ k, k < m → p k < n) : sumI (fun i => sumI (fun k => if p k = i then f k else 0) m) n = sumI f m := by
 rw [sumI_swap]
 refine sumI_congr fun k hk => ?_
 have := sumI_one (f := fun _ => f k) (hp k hk)
 refine Eq.trans (sumI_congr fun i _ => ?_) this
 by_cases h : p k = i
 ·rw [if_pos h, if_pos h.symm]
 ·rw [if_neg h, if_neg fun h2 => h h2.symm]
def con (j : Int) (a : Arc) (x : Int) : Int := (if a.from_ = j then x else 0) - (if a.to = j then x else 0)
abbrev a0 : Arc := ⟨0, 0, 0, 0⟩
theorem valTo_sum {arcs : List Arc} {j : Int} {flow : List Int} : ∀ {k : Nat}, K.valTo arcs j flow k = sumI (fun i => con j (arcs.getD i a0) (flow.getD i 0)) k
 | 0 => rfl
 | k + 1 => by
  have e : arcs.getD k a0 = arcs.getD k ⟨0, 0, 0, 0⟩ := rfl
  rw [K.valTo, valTo_sum, sumI, con, e]
  split <;> split <;> omega
theorem getD_l {l m : List Arc} {i : Nat} (h : i < l.length) : (l ++ m).getD i a0 = l.getD i a0 := by
 rw [yA, vD h, yA]
theorem getD_r {l m : List Arc} {i n : Nat} (h : l.length = n) : (l ++ m).getD (n + i) a0 = m.getD i a0 := by
 rw [yA, vR (by omega), yA, show n + i - l.length = i by omega]
theorem getD_map {α : Type} {l : List α} {f : α → Arc} {i : Nat} (d : α) (h : i < l.length) : (l.map f).getD i a0 = f (l.getD i d) := by
 rw [yA, List.getElem?_map, yA, yD h]; rfl
theorem val_parts {ps : List Spot} {rs : List Road} {flow : List Int} {j : Int} : K.valTo (netOf ps rs) j flow (netOf ps rs).length =
  sumI (fun i => con j (aP ps i) (flow.getD i 0)) ps.length +
  sumI (fun k => con j (aS ps ((ofN ps 1 ps.length).getD k 0)) (flow.getD (ps.length + k) 0)) (ofN ps 1 ps.length).length +
  sumI (fun k => con j (aO ps ((ofN ps 3 ps.length).getD k 0)) (flow.getD (ps.length + (ofN ps 1 ps.length).length + k) 0)) (ofN ps 3 ps.length).length +
  sumI (fun k => con j (aR (rs.getD k default)) (flow.getD (ps.length + (ofN ps 1 ps.length).length + (ofN ps 3 ps.length).length + k) 0)) rs.length := by
 rw [valTo_sum, netOf_len, sumI_add, sumI_add, sumI_add]
 have l3 : (nA3 ps (ofN ps 3 ps.length)).length = ps.length + (ofN ps 1 ps.length).length + (ofN ps 3 ps.length).length := by
  simp only [nA3, nA2, nA1, yH, yP, yQ]
 have l2 : (nA2 ps (ofN ps 1 ps.length)).length = ps.length + (ofN ps 1 ps.length).length := by
  simp only [nA2, nA1, yH, yP, yQ]
 have l1 : (nA1 ps ps.length).length = ps.length := nA1_len
 congr 1
 ·congr 1
  ·congr 1
   ·refine sumI_congr fun i hi => ?_
    rw [netOf, nA4, getD_l (by omega), nA3, getD_l (by omega), nA2, getD_l (by omega), nA1, getD_map 0 (by simpa using hi)]
    rw [yA, uP hi, yO]
   ·refine sumI_congr fun i hi => ?_
    rw [netOf, nA4, getD_l (by omega), nA3, getD_l (by omega), nA2, getD_r l1, getD_map 0 hi]
  ·refine sumI_congr fun i hi => ?_
   rw [netOf, nA4, getD_l (by omega), nA3, getD_r l2, getD_map 0 hi]
 ·refine sumI_congr fun i hi => ?_
  rw [netOf, nA4, getD_r l3, getD_map default hi]
set_option maxRecDepth 20000
theorem con_f {j x : Int} {a : Arc} (h1 : a.from_ = j) (h2 : a.to ≠ j) : con j a x = x := by rw [con, if_pos h1, if_neg h2]; omega
theorem con_t {j x : Int} {a : Arc} (h1 : a.from_ ≠ j) (h2 : a.to = j) : con j a x = -x := by rw [con, if_neg h1, if_pos h2]; omega
theorem con_n {j x : Int} {a : Arc} (h1 : a.from_ ≠ j) (h2 : a.to ≠ j) : con j a x = 0 := by rw [con, if_neg h1, if_neg h2]; rfl
def Fr.fl (fr : Fr) (k : Nat) : Int := fr.flow.getD k 0
def sS (ps : List Spot) (fr : Fr) (i : Nat) : Int := sumI (fun k => if (ofN ps 1 ps.length).getD k 0 = i then fr.fl (ps.length + k) else 0) (ofN ps 1 ps.length).length
def Fr.rd (ps : List Spot) (fr : Fr) (k : Nat) : Int := fr.fl (ps.length + (ofN ps 1 ps.length).length + (ofN ps 3 ps.length).length + k)
def sIn (ps : List Spot) (rs : List Road) (fr : Fr) (i : Nat) : Int := sumI (fun k => if (rs.getD k default).to = i then fr.rd ps k else 0) rs.length
theorem val_in {ps : List Spot} {rs : List Road} {fr : Fr} {i : Nat} (hi : i < ps.length) : K.valTo (netOf ps rs) (2 + 2 * i : Nat) fr.flow (netOf ps rs).length = fr.fl i - sS ps fr i - sIn ps rs fr i := by
 rw [val_parts]
 have e1 : sumI (fun k => con (2 + 2 * i : Nat) (aP ps k) (fr.flow.getD k 0)) ps.length = fr.fl i := by
  rw [← sumI_one (f := fr.fl) hi]
  refine sumI_congr fun k _ => ?_
  simp only [Fr.rd, Fr.fl]
  by_cases h : k = i
  ·rw [if_pos h, con_f (by simp only [aP, aS, aO, aR]; omega) (by simp only [aP, aS, aO, aR]; omega)]
  ·rw [if_neg h, con_n (by simp only [aP, aS, aO, aR]; omega) (by simp only [aP, aS, aO, aR]; omega)]; try omega
 have e2 : sumI (fun k => con (2 + 2 * i : Nat) (aS ps ((ofN ps 1 ps.length).getD k 0)) (fr.flow.getD (ps.length + k) 0)) (ofN ps 1 ps.length).length = - sS ps fr i := by
  rw [sS, ← sumI_neg]
  refine sumI_congr fun k _ => ?_
  simp only [Fr.rd, Fr.fl]
  by_cases h : (ofN ps 1 ps.length).getD k 0 = i
  ·rw [if_pos h, con_t (by simp only [aP, aS, aO, aR]; omega) (by simp only [aP, aS, aO, aR]; omega)]
  ·rw [if_neg h, con_n (by simp only [aP, aS, aO, aR]; omega) (by simp only [aP, aS, aO, aR]; omega)]; try omega
 have e3 : sumI (fun k => con (2 + 2 * i : Nat) (aO ps ((ofN ps 3 ps.length).getD k 0)) (fr.flow.getD (ps.length + (ofN ps 1 ps.length).length + k) 0)) (ofN ps 3 ps.length).length = 0 := by
  refine sumI_zero fun k _ => ?_
  exact con_n (by simp only [aP, aS, aO, aR]; omega) (by simp only [aP, aS, aO, aR]; omega)
 have e4 : sumI (fun k => con (2 + 2 * i : Nat) (aR (rs.getD k default)) (fr.flow.getD (ps.length + (ofN ps 1 ps.length).length + (ofN ps 3 ps.length).length + k) 0)) rs.length = - sIn ps rs fr i := by
  rw [sIn, ← sumI_neg]
  refine sumI_congr fun k _ => ?_
  simp only [Fr.rd, Fr.fl]
  by_cases h : (rs.getD k default).to = i
  ·rw [if_pos h, con_t (by simp only [aP, aS, aO, aR]; omega) (by simp only [aP, aS, aO, aR]; omega)]
  ·rw [if_neg h, con_n (by simp only [aP, aS, aO, aR]; omega) (by simp only [aP, aS, aO, aR]; omega)]; try omega
 rw [e1, e2, e3, e4]; omega
theorem val_0 {ps : List Spot} {rs : List Road} {fr : Fr} (hv : RInv ps rs rs.length) : K.valTo (netOf ps rs) 0 fr.flow (netOf ps rs).length = sumI (fun k => fr.fl (ps.length + k)) (ofN ps 1 ps.length).length := by
 rw [val_parts]
 have e1 : sumI (fun k => con 0 (aP ps k) (fr.flow.getD k 0)) ps.length = 0 := by
  refine sumI_zero fun k _ => ?_
  exact con_n (by simp only [aP, aS, aO, aR]; omega) (by simp only [aP, aS, aO, aR]; omega)
 have e2 : sumI (fun k => con 0 (aS ps ((ofN ps 1 ps.length).getD k 0)) (fr.flow.getD (ps.length + k) 0)) (ofN ps 1 ps.length).length = sumI (fun k => fr.fl (ps.length + k)) (ofN ps 1 ps.length).length := by
  refine sumI_congr fun k _ => ?_
  simp only [Fr.rd, Fr.fl]
  exact con_f rfl (by simp only [aP, aS, aO, aR]; omega)
 have e3 : sumI (fun k => con 0 (aO ps ((ofN ps 3 ps.length).getD k 0)) (fr.flow.getD (ps.length + (ofN ps 1 ps.length).length + k) 0)) (ofN ps 3 ps.length).length = 0 := by
  refine sumI_zero fun k _ => ?_
  exact con_n (by simp only [aP, aS, aO, aR]; omega) (by simp only [aP, aS, aO, aR]; omega)
 have e4 : sumI (fun k => con 0 (aR (rs.getD k default)) (fr.flow.getD (ps.length + (ofN ps 1 ps.length).length + (ofN ps 3 ps.length).length + k) 0)) rs.length = 0 := by
  refine sumI_zero fun k hk => ?_
  obtain ⟨h1, h2, _⟩ := hv.h k hk hk
  have e : rs.getD k default = rs[k] := by rw [yA, yD hk, yO]
  rw [e]
  exact con_n (by simp only [aP, aS, aO, aR]; omega) (by simp only [aP, aS, aO, aR]; omega)
 rw [e1, e2, e3, e4]; omega
set_option maxRecDepth 20000
theorem getD_rs {rs : List Road} {k : Nat} (hk : k < rs.length) : rs.getD k default = rs[k] := by rw [yA, yD hk, yO]
theorem ofN_getD {ps : List Spot} {kind : Int} {n k : Nat} (hk : k < (ofN ps kind n).length) : (ofN ps kind n).getD k 0 < n ∧ isK ps kind ((ofN ps kind n).getD k 0) = true := by
 rw [yA, yD hk, yO]
 have := yE hk
 exact ⟨ofN_mem this, (List.mem_filter.1 this).2⟩
variable {ps : List Spot} {rs : List Road} {fr : Fr}
theorem IsPlan.fl_b (h : IsPlan ps rs fr) (k : Nat) : 0 ≤ fr.fl k ∧ fr.fl k ≤ 1073741824 :=
 K.flow_b ((net_val h.chk).flow h.acc.fl.hl h.acc.fl.hp) k
theorem IsPlan.len (h : IsPlan ps rs fr) : fr.flow.length = ps.length + (ofN ps 1 ps.length).length + (ofN ps 3 ps.length).length + rs.length := by
 rw [h.acc.fl.hl, netOf_len]
theorem IsPlan.caps (h : IsPlan ps rs fr) {i : Nat} (hi : i < ps.length) : fr.fl i ≤ ps[i].cap := by
 have hl := h.acc.fl.hl
 have hn := netOf_len (ps := ps) (rs := rs)
 have := (h.acc.fl.hp i (by omega) (by omega)).2
 have e : (netOf ps rs)[i]'(by omega) = aP ps i := by
  have l2 : (nA2 ps (ofN ps 1 ps.length)).length = ps.length + (ofN ps 1 ps.length).length := by
   simp only [nA2, nA1, yH, yP, yQ]
  have l3 : (nA3 ps (ofN ps 3 ps.length)).length = ps.length + (ofN ps 1 ps.length).length + (ofN ps 3 ps.length).length := by
   simp only [nA3, nA2, nA1, yH, yP, yQ]
  have l1 : (nA1 ps ps.length).length = ps.length := nA1_len
  simp only [netOf, nA4]
  rw [uC (by omega)]
  simp only [nA3]
  rw [uC (by omega)]
  simp only [nA2]
  rw [uC (by omega)]
  simp only [nA1, vS, List.getElem_range]
 rw [e] at this
 rw [Fr.fl, yA, yD (by omega), yO]
 have e2 := capAt_lt hi
 simp only [aP] at this
 omega
theorem IsPlan.e_in (h : IsPlan ps rs fr) {i : Nat} (hi : i < ps.length) : fr.fl i = sS ps fr i + sIn ps rs fr i := by
 have h1 := val_in (rs := rs) (fr := fr) hi
 have h2 := h.acc.fl.hz (2 + 2 * i : Nat) (by omega) (by simp only [nN]; omega) (by omega) (by omega)
 omega
theorem IsPlan.sent (h : IsPlan ps rs fr) : sumI (fun k => fr.fl (ps.length + k)) (ofN ps 1 ps.length).length = fr.sent := by
 rw [← h.acc.hv, val_0 (chk_caps h.chk).2.2]
theorem sS_0 {i : Nat} (hi : isK ps 1 i = false) : sS ps fr i = 0 := sumI_zero fun k hk => if_neg fun h => by
 have := (ofN_getD hk).2; rw [h, hi] at this; cases this
theorem IsPlan.snd (h : IsPlan ps rs fr) {k : Nat} (hk : k < rs.length) : SoundP ps rs[k] := (chk_caps h.chk).2.2.h k hk hk
theorem IsPlan.in_0 (h : IsPlan ps rs fr) {i : Nat} (hi : isK ps 1 i = true) : sIn ps rs fr i = 0 := sumI_zero fun k hk => if_neg fun h2 => by
 obtain ⟨h3, h4, _, _, _, _, h5⟩ := h.snd hk
 rw [getD_rs hk] at h2
 have h6 : i < ps.length := by omega
 rw [isK_lt h6] at hi
 have : rs[k].to.toNat = i := by omega
 simp only [this] at h5
 exact h5 (by simpa using hi)
theorem all_S : sumI (sS ps fr) ps.length = sumI (fun k => fr.fl (ps.length + k)) (ofN ps 1 ps.length).length :=
 sumI_part (p := fun k => (ofN ps 1 ps.length).getD k 0) (f := fun k => fr.fl (ps.length + k)) fun k hk => (ofN_getD hk).1
def kindSum (ps : List Spot) (fr : Fr) (kind : Int) (n : Nat) : Int := sumI (fun i => if isK ps kind i then fr.fl i else 0) n
theorem IsPlan.asked (h : IsPlan ps rs fr) : kindSum ps fr 1 ps.length = fr.sent := by
 rw [← h.sent, ← all_S]
 refine sumI_congr fun i hi => ?_
 cases hk : isK ps 1 i with
 | true =>
  have h1 := h.e_in hi
  have h2 := h.in_0 hk
  simp only [if_true]; omega
 | false => rw [if_neg (by simp), sS_0 hk]
set_option maxRecDepth 20000
abbrev plB (ps : List Spot) (rs : List Road) : Blk := .var [.ro 3 (ps.map Spot.enc), .ro 4 (rs.map Road.enc)]
section
end
end Go.Fx.P
namespace Go.Fx.P.F
open Go Go.Fx Go.Proofs
abbrev cx0 : Cx := cxN Try.prog []
abbrev OkN (f : FuncId) (xs : List V) (h0 : List Blk) (R : V → List Blk → Prop) : Prop := Go.Fx.OkN Try.prog f xs h0 [] R
def lb (l : List Bool) : V := .ro 1 (l.map encB)
def bli (l : List Int) : V := .bro 1 (l.map encI)
variable {f : FuncId} {args : List V} {e : Env} {h : List Blk} {b : Nat} {bn : List Nat} {K : V → St → Prop}
theorem call_is {xs : List V} {x : V} (hC : Ok f xs (Is x)) (h1 : lendsOk h (fun _ => none) args ∧ wkL xs (lends h (fun _ => none) args))
  (hx : ren (fun j => some (h.length + j)) x = x) (h3 : K x ⟨e, h, b⟩) : callP ⟨C0 Try.prog, [], bn, I0 Try.prog, Y0, none⟩ f args ⟨e, h, b⟩ K :=
 Go.Fx.call_is hC h1 hx trivial h3
theorem call_isA (xs : List V) (x x' : V) (h0 h0' : List Blk) (hC : Ok f xs (IsA x h0)) (h1 : lendsOk h (fun _ => none) args ∧ wkL xs (lends h (fun _ => none) args))
  (hx : ren (fun j => some (h.length + j)) x = x') (hh : h0.map (renB (fun j => some (h.length + j))) = h0') (h3 : K x' ⟨e, h ++ h0', b⟩) : callP ⟨C0 Try.prog, [], bn, I0 Try.prog, Y0, none⟩ f args ⟨e, h, b⟩ K :=
 Go.Fx.call_isA xs x x' h0 h0' hC h1 hx hh trivial h3
theorem okN_of {f : FuncId} {l0 l : LCode} {rs : List LRes} {nt : Nat} (fx : List Nat) (hl : rlF Try.prog f l0 = some (l, rs, nt)) {args : List V} {h0 : List Blk} {R : V → List Blk → Prop} (hlen : args.length ≤ nt) (hb : keepP fx h0) (hfx : fx = yM h0.length)
  (h : aw (Go.Fx.cxN Try.prog fx) l (retP fx h0.length rs R) (fun _ _ => False) (retP fx h0.length rs R) ⟨args0 0 args, h0, 0⟩) : OkN f args h0 R :=
 Go.Fx.okN_of pol fx hl hlen hb (fun k hk _ => by rw [hfx, yK]; exact hk) h
theorem call_isN {fx : List Nat} (ι : List Nat) (xs : List V) (x x' : V) (h0 h1 h' : List Blk) (hC : OkN f xs h0 (IsA x h1))
  (hι : ι.Nodup ∧ ∀ k ∈ ι, k < h.length ∧ k ∉ bn) (r0 : ι.map (fun k => renB (pos ι) (blk h k)) = h0) (ha : lendsOk h (pos ι) args ∧ wkL xs (lends h (pos ι) args)) (hlen : ι.length ≤ h1.length)
  (hh : setAll ι (h1.map (renB (back ι h.length))) h = h') (hx : ren (back ι h.length) x = x') (keep : keepP fx h') (h3 : K x' ⟨e, h', b⟩) : callP ⟨C0 Try.prog, fx, bn, I0 Try.prog, Y0, none⟩ f args ⟨e, h, b⟩ K :=
 Go.Fx.call_isN ι xs x x' h0 h1 h' hC hι r0 ha hlen hh hx keep h3
end Go.Fx.P.F
namespace Go.Fx.P.F
open Go Go.Fx Go.Proofs
set_option maxRecDepth 20000
def validA (n : Int) (a : Arc) : Bool := decide ((0 ≤ a.from_ ∧ a.from_ < n) ∧ (0 ≤ a.to ∧ a.to < n) ∧ a.from_ ≠ a.to ∧ 0 ≤ a.cap ∧ a.cap ≤ 1073741824)
def nb (n : Int) : Blk := .var [.i n, .any]
end Go.Fx.P.F
namespace Go.Fx.P.F
open Go Go.Fx Go.Proofs
set_option maxRecDepth 20000
end Go.Fx.P.F
namespace Go.Fx.P.F
open Go Go.Fx Go.Proofs
def endsB (n f t : Int) : Bool := decide ((0 ≤ f ∧ f < n) ∧ (0 ≤ t ∧ t < n) ∧ f ≠ t)
theorem ok58 (n : Int) (arcs : List Arc) (f t : Int) : Ok 58 [net n arcs, .i f, .i t] (Is (.b (endsB n f t))) := by
 refine ok_of lw58 (by simp) ?_
 unfold c58 net
 simp -implicitDefEqProofs only [rX,↓rY,ofConst,cells?,↓reduceIte,Nat.reduceEqDiff,Nat.reduceAdd,reduceCtorEq,freshP,resP,tupV,wfV,cxN,args0]
 simp only [br, decide_eq_true_eq, decide_eq_false_iff_not, endsB]
 grind
end Go.Fx.P.F
namespace Go.Fx.P.F
open Go Go.Fx Go.Proofs
set_option maxRecDepth 20000
def valTo (arcs : List Arc) (node : Int) (flow : List Int) : Nat → Int
 | 0 => 0
 | k + 1 => valTo arcs node flow k + (if (arcs.getD k ⟨0,0,0,0⟩).from_ = node then flow.getD k 0 else 0) - (if (arcs.getD k ⟨0,0,0,0⟩).to = node then flow.getD k 0 else 0)
theorem valTo_bound (arcs : List Arc) (node : Int) (flow : List Int) (hf : ∀ x ∈ flow, 0 ≤ x ∧ x ≤ 1073741824) : ∀ k : Nat, -((k : Int) * 1073741824) ≤ valTo arcs node flow k ∧ valTo arcs node flow k ≤ (k : Int) * 1073741824
 | 0 => by simp [valTo]
 | k + 1 => by
  have h1 := valTo_bound arcs node flow hf k
  have h2 : 0 ≤ flow.getD k 0 ∧ flow.getD k 0 ≤ 1073741824 := by
   rw [yA]
   cases h : flow[k]? with
   | none => simp
   | some x => exact hf x (uA h)
  simp only [valTo]
  split <;> split <;> omega
theorem valTo_step {arcs : List Arc} {node : Int} {flow : List Int} {k : Nat} (h1 : k < arcs.length) (h2 : k < flow.length) : valTo arcs node flow (k + 1) = valTo arcs node flow k + (if arcs[k].from_ = node then flow[k] else 0) - (if arcs[k].to = node then flow[k] else 0) := by
 simp only [valTo, yA, yD h1, yD h2, yO]
end Go.Fx.P.F
namespace Go.Fx.P.F
open Go Go.Fx Go.Proofs
set_option maxRecDepth 20000
def rowF (N : Nat) (f : Int → Int) : List (List V) := (yM N).map fun j : Nat => encI (f j)
theorem rowF_len {N : Nat} {f : Int → Int} : (rowF N f).length = N := by simp [rowF]
theorem rowF_get {N : Nat} {f : Int → Int} {i : Nat} (h : i < (rowF N f).length) : (rowF N f)[i] = encI (f i) := by simp [rowF]
theorem rowF_set {N : Nat} {f : Int → Int} {i : Nat} {x : Int} : (rowF N f).set i [.v (.int .i64 x)] = rowF N (fun j => if j = i then x else f j) := by
 apply vE
 ·simp [rowF]
 ·intro j h1 h2
  simp only [uD, rowF_get]
  by_cases h : i = j
  ·subst h; simp [encI]
  ·have : ¬ (j : Int) = i := by omega
   simp [h, this]
theorem rowF_congr {N : Nat} {f g : Int → Int} (h : ∀ i : Nat, i < N → f i = g i) : rowF N f = rowF N g := by
 simp only [rowF, List.map_inj_left, yK]
 intro i hi
 rw [h i hi]
theorem ok60 (N : Nat) (arcs : List Arc) (flow : List Int) (hl : flow.length = arcs.length) (hb : arcs.length ≤ 4096) (hn : N ≤ 256) (hf : ∀ x ∈ flow, 0 ≤ x ∧ x ≤ 1073741824) (hv : ∀ a ∈ arcs, (0 ≤ a.from_ ∧ a.from_ < N) ∧ (0 ≤ a.to ∧ a.to < N) ∧ a.from_ ≠ a.to) :
  Ok 60 [net N arcs, li flow] (IsA (.sl 1 0 N) [.dead, .arr 1 (rowF N (fun j => valTo arcs j flow arcs.length))]) := by
 refine ok_of lw60 (by simp) ?_
 unfold c60 net li
 simp -implicitDefEqProofs only [rX,↓rY,ofConst,cells?,↓reduceIte,Nat.reduceEqDiff,Nat.reduceAdd,freshP,cxN,args0]
 refine ⟨by omega, fun hm => ?_⟩
 refine loopP_intro (fun k : Nat => ⟨[(14, .i k), (13, .i arcs.length), (12, .ro 4 (arcs.map Arc.enc)), (5, .sl 1 0 N), (1, .ro 1 (flow.map encI))], [.dead, .arr 1 (rowF N (fun j => valTo arcs j flow k))], 0⟩) (fun k => k ≤ arcs.length) (fun k => arcs.length - k) 0 (by simp) ?_ ?_
 ·have h0 : rowF N (fun j => valTo arcs j flow 0) = vF N [V.i 0] := by
   apply vE
   ·simp [rowF]
   ·intro i h1 h2
    simp [rowF, valTo, encI]
  simp -implicitDefEqProofs only [rX,↓reduceIte,Nat.reduceEqDiff,reduceCtorEq,leE,leH,leB,keepP,liveP,wfE,wfB,wfV,h0,yF]
 intro k hk
 simp -implicitDefEqProofs only [rX,↓rY,rZ,ofConst,cells?,splice,↓reduceIte,Nat.reduceEqDiff,arrSz,Nat.reduceAdd,freshP,resP,tupV,leE,leH,leB,keepP,liveP,wfE,wfB,wfV,isD,isC,Nat.reduceLeDiff,rowF_len,rowF_get,rowF_set,retP_isA]
 simp only [br, decide_eq_true_eq, decide_eq_false_iff_not]
 refine ⟨fun h => ?_, fun h => ?_⟩
 ·have hk1 : k < arcs.length := by omega
  have hk2 : k < flow.length := by omega
  have hvk := hv arcs[k] (yE hk1)
  have hfk := hf flow[k] (yE hk2)
  have hb1 := valTo_bound arcs arcs[k].from_ flow hf k
  have hb2 := valTo_bound arcs arcs[k].to flow hf k
  have e1 : ((arcs[k].from_.toNat : Nat) : Int) = arcs[k].from_ := by omega
  have e2 : ((arcs[k].to.toNat : Nat) : Int) = arcs[k].to := by omega
  have e3 : ¬ arcs[k].to = arcs[k].from_ := by omega
  simp only [e1, e2, e3, if_false, lo, hi, rowF_len]
  repeat' (first | (refine ⟨(k+1 : _), ?_⟩) | (refine ⟨by omega, ?_⟩) | (refine And.intro ?_ ?_) | (refine (fun _ => ?_)))
  all_goals try omega
  congr 1
  apply rowF_congr
  intro i hi
  simp only [valTo_step (node := i) hk1 hk2]
  grind
 ·have : k = arcs.length := by omega
  rw [this]
theorem ok37 (N : Nat) (node : Int) (arcs : List Arc) (flow : List Int) (hl : flow.length = arcs.length) (hb : arcs.length ≤ 4096) (hn : N ≤ 256) (hf : ∀ x ∈ flow, 0 ≤ x ∧ x ≤ 1073741824) (hv : ∀ a ∈ arcs, (0 ≤ a.from_ ∧ a.from_ < N) ∧ (0 ≤ a.to ∧ a.to < N) ∧ a.from_ ≠ a.to)
  (h0 : 0 ≤ node ∧ node < N) : Ok 37 [net N arcs, .i node, li flow] (Is (.i (valTo arcs node flow arcs.length))) := by
 refine ok_of lw37 (by simp) ?_
 unfold c37 net li
 simp -implicitDefEqProofs only [rX,↓rY,ofConst,cells?,↓reduceIte,Nat.reduceEqDiff,Nat.reduceAdd,reduceCtorEq,freshP,cxN,args0]
 refine call_isA [net N arcs, li flow] (.sl 1 0 N) (.sl 2 0 N) [.dead, .arr 1 (rowF N (fun j => valTo arcs j flow arcs.length))] [.dead, .arr 1 (rowF N (fun j => valTo arcs j flow arcs.length))] (ok60 N arcs flow hl hb hn hf hv) ?_ rfl rfl ?_
 ·simp [net, li, lendsOk, lendOk, lends, lend, wkL, wk, wkB, wkR, pos]
 simp -implicitDefEqProofs only [rX,↓rY,rZ,↓reduceIte,Nat.reduceEqDiff,arrSz,reduceCtorEq,resP,tupV,wfV,rowF_len,rowF_get]
 refine ⟨h0, by omega, ?_⟩
 rw [vJ h0.1]
end Go.Fx.P.F
namespace Go.Fx.P.F
open Go Go.Fx Go.Proofs
set_option maxRecDepth 20000
def possP (arcs : List Arc) (flow : List Int) : Prop := ∀ i (h1 : i < flow.length) (h2 : i < arcs.length), 0 ≤ flow[i] ∧ flow[i] ≤ arcs[i].cap
end Go.Fx.P.F
namespace Go.Fx.P.F
open Go Go.Fx Go.Proofs
set_option maxRecDepth 20000
def okFlow (n : Int) (arcs : List Arc) (f t : Int) (flow : List Int) : Prop := (∀ j : Int, 0 ≤ j → j < n → j ≠ f → j ≠ t → valTo arcs j flow arcs.length = 0) ∧ 0 ≤ valTo arcs f flow arcs.length
open Classical in
noncomputable def checkI (n : Int) (arcs : List Arc) (f t : Int) (flow : List Int) : Int := if ¬ (endsB n f t = true ∧ flow.length = arcs.length) then 1 else if ¬ possP arcs flow then 101 else if okFlow n arcs f t flow then 0 else 100
structure Val (N : Nat) (arcs : List Arc) : Prop where
 hn : 1 ≤ N ∧ N ≤ 256
 hl : arcs.length ≤ 2048
 ha : ∀ a ∈ arcs, ((0 ≤ a.from_ ∧ a.from_ < N) ∧ (0 ≤ a.to ∧ a.to < N) ∧ a.from_ ≠ a.to) ∧ 0 ≤ a.cap ∧ a.cap ≤ 1073741824
theorem Val.flow {N : Nat} {arcs : List Arc} (h : Val N arcs) {flow : List Int} (hl : flow.length = arcs.length) (hp : possP arcs flow) : ∀ x ∈ flow, 0 ≤ x ∧ x ≤ 1073741824 := by
 intro x hx
 obtain ⟨i, hi, rfl⟩ := yT hx
 have h1 := hp i hi (by omega)
 have h2 := (h.ha arcs[i] (yE _)).2
 omega
structure FlInv (arcs : List Arc) (f t : Int) (flow : List Int) (k : Nat) : Prop where
 h : ∀ j : Nat, j < k → ((j : Int) ≠ f → (j : Int) ≠ t → valTo arcs j flow arcs.length = 0) ∧ ((j : Int) = f → 0 ≤ valTo arcs j flow arcs.length)
theorem ok40 (N : Nat) (arcs : List Arc) (f t : Int) (flow : List Int) (hV : Val N arcs) : Ok 40 [net N arcs, .i f, .i t, li flow] (Is (.i (checkI N arcs f t flow))) := by
 refine ok_of lw40 (by simp) ?_
 unfold c40
 simp -implicitDefEqProofs only [rX,↓rY,ofConst,cells?,↓reduceIte,Nat.reduceEqDiff,Nat.reduceAdd,reduceCtorEq,freshP,cxN,args0,net,li]
 refine call_is (ok58 N arcs f t) ?_ rfl ?_
 ·simp [net, li, lendsOk, lendOk, lends, lend, wkL, wk, wkB, wkR, pos]
 simp -implicitDefEqProofs only [rX,↓rY,ofConst,↓reduceIte,Nat.reduceEqDiff,reduceCtorEq,resP,tupV,wfV]
 simp only [br, decide_eq_true_eq, decide_eq_false_iff_not, bne_iff_ne, bne_eq_false_iff_eq]
 refine ⟨fun h => ?_, fun he hm1 hm2 => ⟨fun h => ?_, fun hl _ => ?_⟩⟩
 ·rw [checkI, if_pos]
  simp at h; simp [h]
 ·rw [checkI, if_pos]
  intro h2; omega
 simp at he
 have hl' : flow.length = arcs.length := by omega
 refine loopP_intro (fun k : Nat => ⟨[(28, .i k), (27, .i flow.length), (26, .ro 1 (flow.map encI)), (4, .ptr 0 0 0), (3, .ro 1 (flow.map encI)), (2, .i t), (1, .i f)], [.var [.i N, .ro 4 (arcs.map Arc.enc)]], 0⟩) (fun k => k ≤ arcs.length ∧ ∀ j (h1 : j < flow.length) (h2 : j < arcs.length), j < k → 0 ≤ flow[j] ∧ flow[j] ≤ arcs[j].cap) (fun k => arcs.length - k) 0 (by simp) ?_ ?_
 ·simp -implicitDefEqProofs only [rX,↓reduceIte,Nat.reduceEqDiff,reduceCtorEq,leE,leH,leB,leV,leVs,keepP,liveP,wfE,wfB,wfV,wfL,leVs,leV,yF]
 rintro k ⟨hk, hv⟩
 simp -implicitDefEqProofs only [rX,↓rY,rZ,ofConst,↓reduceIte,Nat.reduceEqDiff,Nat.reduceAdd,resP,tupV,leE,leH,leB,leV,leVs,keepP,liveP,wfE,wfB,wfV,wfL]
 simp only [br, decide_eq_true_eq, decide_eq_false_iff_not]
 refine ⟨fun h2 => ⟨⟨by omega, h2⟩, by omega, fun q => ?_, fun q1 => ⟨⟨by omega, by omega⟩, by omega, fun q => ?_, fun q2 => ⟨?_, k + 1, ⟨⟨by omega, ?_⟩, by omega⟩, by simp⟩⟩⟩, fun h2 => ?_⟩
 ·rw [checkI, if_neg (by simp [he, hl']), if_pos]
  intro hp
  have := hp k (by omega) (by omega)
  omega
 ·rw [checkI, if_neg (by simp [he, hl']), if_pos]
  intro hp
  have := hp k (by omega) (by omega)
  omega
 ·simp only [lo, hi, maxLen] at *; omega
 ·intro j h3 h4 h5
  by_cases h6 : j = k
  ·subst h6; omega
  ·exact hv j h3 h4 (by omega)
 have hp : possP arcs flow := fun i h3 h4 => hv i h3 h4 (by omega)
 have hf := hV.flow hl' hp
 have hN := hV.hn
 have hL := hV.hl
 refine call_isA [net N arcs, li flow] (.sl 1 0 N) (.sl 2 0 N) [.dead, .arr 1 (rowF N (fun j => valTo arcs j flow arcs.length))] [.dead, .arr 1 (rowF N (fun j => valTo arcs j flow arcs.length))] (ok60 N arcs flow hl' (by omega) (by omega) hf (fun a ha => (hV.ha a ha).1)) ?_ rfl rfl ?_
 ·simp [net, li, lendsOk, lendOk, lends, lend, wkL, wk, wkB, wkR, pos]
 simp -implicitDefEqProofs only [rX,↓rY,ofConst,↓reduceIte]
 intro _
 refine loopP_intro (fun k : Nat => ⟨[(50, .i k), (49, .i N), (48, .sl 2 0 N), (2, .i t), (1, .i f)], [.dead, .dead, .arr 1 (rowF N (fun j => valTo arcs j flow arcs.length))], 0⟩) (fun k => k ≤ N ∧ FlInv arcs f t flow k) (fun k => N - k) 0 ⟨by omega, ⟨by simp⟩⟩ ?_ ?_
 ·simp -implicitDefEqProofs only [rX,↓reduceIte,Nat.reduceEqDiff,leE,leH,leB,keepP,liveP,wfE,wfB,wfV,yF]
 rintro k ⟨hk, hv⟩
 simp -implicitDefEqProofs only [rX,↓rY,rZ,ofConst,↓reduceIte,Nat.reduceEqDiff,arrSz,Nat.reduceAdd,resP,tupV,leE,leH,leB,keepP,liveP,wfE,wfB,wfV,rowF_len,rowF_get]
 simp only [br, decide_eq_true_eq, decide_eq_false_iff_not, bne_iff_ne, bne_eq_false_iff_eq, beq_iff_eq, beq_eq_false_iff_ne]
 have bad : ¬ okFlow N arcs f t flow → 100 = checkI N arcs f t flow := by
  intro h
  rw [checkI, if_neg (by simp [he, hl']), if_neg (by simpa using hp), if_neg h]
 have good : okFlow N arcs f t flow → 0 = checkI N arcs f t flow := by
  intro h
  rw [checkI, if_neg (by simp [he, hl']), if_neg (by simpa using hp), if_pos h]
 have hef : (k : Int) = f → valTo arcs k flow arcs.length = valTo arcs f flow arcs.length := by rintro rfl; rfl
 have hnx : (k < N) → ((k : Int) ≠ f → (k : Int) ≠ t → valTo arcs k flow arcs.length = 0) ∧ ((k : Int) = f → 0 ≤ valTo arcs k flow arcs.length) →
   FlInv arcs f t flow (k + 1) := by
  intro h3 h4
  refine ⟨fun j hj => ?_⟩
  by_cases h6 : j = k
  ·subst h6; exact h4
  ·exact hv.h j (by omega)
 have bad1 : (0 ≤ (k : Int) ∧ (k : Int) < N) → (k : Int) ≠ f → (k : Int) ≠ t → valTo arcs k flow arcs.length ≠ 0 → 100 = checkI N arcs f t flow := fun h1 h2 h3 h4 => bad fun ho => h4 (ho.1 k h1.1 h1.2 h2 h3)
 have bad2 : (k : Int) = f → valTo arcs k flow arcs.length < 0 → 100 = checkI N arcs f t flow := fun h1 h2 => bad fun ho => by
  have := ho.2
  rw [hef h1] at h2
  omega
 refine ⟨fun h3 => ?_, fun h3 => ?_⟩
 ·have h4 : k < N := by omega
  have hnx := hnx h4
  simp only [lo, hi, maxLen] at *
  refine ⟨⟨by omega, by omega⟩, by simpa [rowF_len] using h4, ?_⟩
  repeat' (first | (refine ⟨(k+1 : _), ?_⟩) | (refine ⟨by omega, ?_⟩) | (refine And.intro ?_ ?_) | (refine (fun _ => ?_)))
  all_goals first | omega | exact bad1 ⟨by omega, h3⟩ ‹_› ‹_› ‹_› | exact bad2 ‹_› ‹_› | (exact hnx ⟨fun _ _ => by first | assumption | omega, fun _ => by omega⟩)
 ·apply good
  have hend : (0 ≤ f ∧ f < N) := by simp [endsB] at he; omega
  have hk2 : k = N := by omega
  refine ⟨fun j h1 h2 h4 h5 => ?_, ?_⟩
  ·have := (hv.h j.toNat (by omega)).1
   rw [vJ h1] at this
   exact this h4 h5
  ·have := (hv.h f.toNat (by omega)).2
   rw [vJ hend.1] at this
   exact this rfl
end Go.Fx.P.F
namespace Go.Fx.P.F
open Go Go.Fx Go.Proofs
set_option maxRecDepth 20000
end Go.Fx.P.F
namespace Go.Fx.P.F
open Go Go.Fx Go.Proofs
set_option maxRecDepth 20000
end Go.Fx.P.F
namespace Go.Fx.P.F
open Go Go.Fx Go.Proofs
set_option maxRecDepth 20000
theorem check0 {N : Nat} {arcs : List Arc} {f t : Int} {flow : List Int} (h : checkI N arcs f t flow = 0) : endsB N f t = true ∧ flow.length = arcs.length ∧ possP arcs flow := by
 unfold checkI at h
 split at h
 ·simp at h
 ·rename_i h1
  split at h
  ·simp at h
  ·rename_i h2
   exact ⟨(Classical.not_not.mp h1).1, (Classical.not_not.mp h1).2, Classical.not_not.mp h2⟩
end Go.Fx.P.F
namespace Go.Fx.P.F
open Go Go.Fx Go.Proofs
set_option maxRecDepth 20000
def restA (arcs : List Arc) (flow : List Int) : Nat → List Arc
 | 0 => []
 | k + 1 => restA arcs flow k ++ [⟨(arcs.getD k ⟨0,0,0,0⟩).from_, (arcs.getD k ⟨0,0,0,0⟩).to, (arcs.getD k ⟨0,0,0,0⟩).cap - flow.getD k 0, (arcs.getD k ⟨0,0,0,0⟩).cost⟩, ⟨(arcs.getD k ⟨0,0,0,0⟩).to, (arcs.getD k ⟨0,0,0,0⟩).from_, flow.getD k 0, IntKind.wrap .i64 (-(arcs.getD k ⟨0,0,0,0⟩).cost)⟩]
end Go.Fx.P.F
namespace Go.Fx.P.F
open Go Go.Fx Go.Proofs
def gA (R : List Arc) (i : Nat) : Arc := R.getD i ⟨0, 0, 0, 0⟩
def scanTo (R : List Arc) (k : Int) (s : List Int × List Int) : Nat → List Int × List Int
 | 0 => s
 | i + 1 => if (gA R i).from_ = k ∧ 0 < (gA R i).cap ∧ (scanTo R k s i).1.getD (gA R i).to.toNat 0 = -2 then ((scanTo R k s i).1.set (gA R i).to.toNat i, (scanTo R k s i).2 ++ [(gA R i).to]) else scanTo R k s i
def bfsTo (R : List Arc) (N : Nat) (f : Int) : Nat → List Int × List Int
 | 0 => ((vF N (-2)).set f.toNat (-1), [f])
 | h + 1 => match (bfsTo R N f h).2[h]? with
  | some k => scanTo R k (bfsTo R N f h) R.length
  | none => bfsTo R N f h
theorem getD_set {l : List Int} {i j : Nat} {x d : Int} (h : i < l.length) : (l.set i x).getD j d = if j = i then x else l.getD j d := by
 simp only [yA, List.getElem?_set]
 by_cases hij : i = j
 ·subst hij; simp [h]
 ·have : ¬ j = i := fun h => hij h.symm
  simp [hij, this]
end Go.Fx.P.F
namespace Go.Fx.P.F
open Go Go.Fx Go.Proofs
theorem nodup_le {l : List Int} (N : Nat) (hn : l.Nodup) (hr : ∀ v ∈ l, 0 ≤ v ∧ v < N) : l.length ≤ N := by
 have h1 : (l.map vK).Nodup := by
  rw [yX, vT]
  refine List.Pairwise.imp_of_mem ?_ hn
  intro a b ha hb hab he
  have := hr a ha
  have := hr b hb
  omega
 have h2 : (l.map vK) ⊆ yM N := by
  intro x hx
  rw [yI] at hx
  obtain ⟨a, ha, rfl⟩ := hx
  have := hr a ha
  rw [yK]; omega
 have h3 := List.Nodup.length_le_of_subset h1 h2
 simpa using h3
def srch (R : List Arc) (N : Nat) (f : Int) : List Int × List Int := bfsTo R N f N
def walk (R : List Arc) (t : List Int × List Int) : Nat → Int → List Nat
 | 0, _ => []
 | n + 1, k => if t.1.getD k.toNat 0 < 0 then [] else (t.1.getD k.toNat 0).toNat :: walk R t n (gA R (t.1.getD k.toNat 0).toNat).from_
end Go.Fx.P.F
namespace Go.Fx.P.F
open Go Go.Fx Go.Proofs
def push1 (d : Int) (fl : List Int) (i : Nat) : List Int := if i % 2 = 0 then fl.set (i / 2) (fl.getD (i / 2) 0 + d) else fl.set (i / 2) (fl.getD (i / 2) 0 - d)
def pushAll (d : Int) (fl : List Int) (p : List Nat) : List Int := p.foldl (push1 d) fl
def leastOf (R : List Arc) (p : List Nat) (m : Int) : Int := p.foldl (fun m i => min m (gA R i).cap) m
def round (arcs : List Arc) (N : Nat) (f t : Int) (fl : List Int) : Option (List Int) :=
 if (srch (restA arcs fl arcs.length) N f).1.getD t.toNat 0 = -2 then none
 else some (pushAll (leastOf (restA arcs fl arcs.length) (walk (restA arcs fl arcs.length) (srch (restA arcs fl arcs.length) N f) N t) 1073741824) fl (walk (restA arcs fl arcs.length) (srch (restA arcs fl arcs.length) N f) N t))
theorem valTo_set (arcs : List Arc) (x : Int) (fl : List Int) (q : Nat) (e : Int) (hq : q < fl.length) : ∀ k, valTo arcs x (fl.set q (fl.getD q 0 + e)) k = valTo arcs x fl k + (if q < k then (if (gA arcs q).from_ = x then e else 0) - (if (gA arcs q).to = x then e else 0) else 0)
 | 0 => by simp [valTo]
 | k + 1 => by
  have ih := valTo_set arcs x fl q e hq k
  simp only [valTo, ih, getD_set hq]
  by_cases h : k = q
  ·subst h
   simp only [if_true, Nat.lt_irrefl, if_false, Nat.lt_succ_self, gA]
   split <;> split <;> omega
  ·simp only [h, if_false]
   by_cases h2 : q < k
   ·simp only [h2, if_true, show q < k + 1 by omega]
    omega
   ·simp only [h2, if_false, show ¬ q < k + 1 by omega]
    omega
end Go.Fx.P.F
namespace Go.Fx.P.F
open Go Go.Fx Go.Proofs
end Go.Fx.P.F
namespace Go.Fx.P.F
open Go Go.Fx Go.Proofs
end Go.Fx.P.F
namespace Go.Fx.P.F
open Go Go.Fx Go.Proofs
theorem getD_nil {a : Arc} {arcs : List Arc} {q : Nat} (h : q < arcs.length) : gA arcs q = arcs[q] := by
 simp [gA, yA, yD h]
theorem poss_iff {arcs : List Arc} {fl : List Int} (hl : fl.length = arcs.length) : possP arcs fl ↔ ∀ q, q < arcs.length → 0 ≤ fl.getD q 0 ∧ fl.getD q 0 ≤ (gA arcs q).cap := by
 refine ⟨fun h q hq => ?_, fun h q h1 h2 => ?_⟩
 ·have := h q (by omega) hq
  rw [yA, yD (by omega), getD_nil (a := ⟨0,0,0,0⟩) hq]
  exact this
 ·have := h q h2
  rw [yA, yD h1, getD_nil (a := ⟨0,0,0,0⟩) h2] at this
  exact this
end Go.Fx.P.F
namespace Go.Fx.P.F
open Go Go.Fx Go.Proofs
set_option maxRecDepth 20000
theorem mapI_set {l : List Int} {i : Nat} {x : Int} : (l.map encI).set i [.v (.int .i64 x)] = (l.set i x).map encI := by
 rw [List.map_set]; rfl
theorem encB_drop (x : Bool) : vL 1 (encB x) = [] := rfl
end Go.Fx.P.F
namespace Go.Fx.P.F
open Go Go.Fx Go.Proofs
theorem app_get {α : Type} {bs l : List α} {q : Nat} : (bs ++ l)[bs.length + q]? = l[q]? := by
 rw [vR (by omega)]; congr 1; omega
theorem app_get0 {α : Type} {bs l : List α} : (bs ++ l)[bs.length]? = l[0]? := app_get (q := 0)
theorem app_set {α : Type} {bs l : List α} {q : Nat} {x : α} : (bs ++ l).set (bs.length + q) x = bs ++ l.set q x := by
 rw [uE _ _ (by omega)]; congr 2; omega
theorem app_set0 {α : Type} {bs l : List α} {x : α} : (bs ++ l).set bs.length x = bs ++ l.set 0 x := app_set (q := 0)
end Go.Fx.P.F
namespace Go.Fx.P.F
open Go Go.Fx Go.Proofs
theorem wfL_all {h : List Blk} : ∀ {cs : List V}, (∀ x ∈ cs, wfV h x) → wfL h cs
 | [], _ => trivial
 | x :: r, hx => ⟨hx x yB, wfL_all fun y hy => hx y (yC _ hy)⟩
end Go.Fx.P.F
namespace Go.Fx.P.F
open Go Go.Fx Go.Proofs
end Go.Fx.P.F
namespace Go.Fx.P.F
open Go Go.Fx Go.Proofs
set_option maxRecDepth 20000
end Go.Fx.P.F
namespace Go.Fx.P.F
open Go Go.Fx Go.Proofs
set_option maxRecDepth 20000
end Go.Fx.P.F
namespace Go.Fx.P.F
open Go Go.Fx Go.Proofs
set_option maxRecDepth 20000
end Go.Fx.P.F
namespace Go.Fx.P.F
open Go Go.Fx Go.Proofs
set_option maxRecDepth 20000
end Go.Fx.P.F
namespace Go.Fx.P.F
open Go Go.Fx Go.Proofs
set_option maxRecDepth 20000
theorem caps_in {N : Nat} {arcs : List Arc} (hV : Val N arcs) : ∀ q, 0 ≤ (gA arcs q).cap ∧ (gA arcs q).cap ≤ 1073741824 := by
 intro q
 by_cases h : q < arcs.length
 ·rw [getD_nil (a := ⟨0,0,0,0⟩) h]
  exact (hV.ha arcs[q] (yE h)).2
 ·simp [gA, yA, uQ (show arcs.length ≤ q by omega)]
end Go.Fx.P.F
namespace Go.Fx.P.F
open Go Go.Fx Go.Proofs
set_option maxRecDepth 20000
def left (n : Nat) (seen : List Nat) : Nat := ((yM n).filter fun j => !seen.contains j).length
end Go.Fx.P.F
namespace Go.Fx.P.F
open Go Go.Fx Go.Proofs
set_option maxRecDepth 20000
end Go.Fx.P.F
namespace Go.Fx.P.F
open Go Go.Fx Go.Proofs
set_option maxRecDepth 20000
end Go.Fx.P.F
namespace Go.Fx.P.F
open Go Go.Fx Go.Proofs
set_option maxRecDepth 20000
end Go.Fx.P.F
namespace Go.Fx.P.F
open Go Go.Fx Go.Proofs
set_option maxRecDepth 20000
end Go.Fx.P.F
namespace Go.Fx.P.F
open Go Go.Fx Go.Proofs
def arcIn (arcs : List Arc) (cut : List Bool) (fl : List Int) (k : Nat) : Int :=
 (if cut.getD (gA arcs k).from_.toNat false = true then fl.getD k 0 else 0) - (if cut.getD (gA arcs k).to.toNat false = true then fl.getD k 0 else 0)
def sumC (arcs : List Arc) (cut : List Bool) (fl : List Int) : Nat → Int
 | 0 => 0
 | k + 1 => sumC arcs cut fl k + arcIn arcs cut fl k
theorem val_in {N : Nat} {arcs : List Arc} (hV : Val N arcs) {k : Nat} (hk : k < arcs.length) : (0 ≤ (gA arcs k).from_ ∧ (gA arcs k).from_ < N) ∧ (0 ≤ (gA arcs k).to ∧ (gA arcs k).to < N) := by
 rw [getD_nil (a := ⟨0,0,0,0⟩) hk]
 have := hV.ha arcs[k] (yE hk)
 exact ⟨this.1.1, this.1.2.1⟩
end Go.Fx.P.F
namespace Go.Fx.P.F
open Go Go.Fx Go.Proofs
def lowR (rest : List Int) (w : List Nat) (m : Int) : Int := w.foldl (fun m i => min m (rest.getD i 0)) m
def tkN (rest : List Int) (w : List Nat) : Int := lowR rest w (rest.getD (w.getD 0 0) 0)
def tk1 (d : Int) (rest : List Int) (i : Nat) : List Int := rest.set i (rest.getD i 0 - d)
def tkAll (d : Int) (rest : List Int) (w : List Nat) : List Int := w.foldl (tk1 d) rest
def tkR (rest : List Int) (w : List Nat) : List Int := tkAll (tkN rest w) rest w
theorem tkAll_len {d : Int} : ∀ {w : List Nat} {rest : List Int}, (tkAll d rest w).length = rest.length
 | [], _ => rfl
 | i :: w, rest => by
  show (tkAll d (tk1 d rest i) w).length = _
  rw [tkAll_len]; simp [tk1]
theorem tkR_len {rest : List Int} {w : List Nat} : (tkR rest w).length = rest.length := tkAll_len
theorem tkAll_get {d : Int} : ∀ {w : List Nat} {rest : List Int}, w.Nodup → (∀ i ∈ w, i < rest.length) → ∀ q, (tkAll d rest w).getD q 0 = rest.getD q 0 - (if q ∈ w then d else 0)
 | [], _, _, _, q => by simp [tkAll]
 | i :: w, rest, hn, hl, q => by
  rw [vM] at hn
  show (tkAll d (tk1 d rest i) w).getD q 0 = _
  have hi := hl i yB
  rw [tkAll_get hn.2 (fun j hj => by simp only [tk1, List.length_set]; exact hl j (yC _ hj)), tk1, getD_set hi]
  by_cases e : q = i
  ·subst e
   rw [if_pos rfl, if_neg hn.1, if_pos yB]; omega
  ·rw [if_neg e]
   by_cases e2 : q ∈ w
   ·rw [if_pos e2, if_pos (yC _ e2)]
   ·rw [if_neg e2, if_neg (by rw [vN]; exact fun h => h.elim e e2)]
theorem lowR_le (rest : List Int) : ∀ (w : List Nat) (m : Int), lowR rest w m ≤ m ∧ ∀ i ∈ w, lowR rest w m ≤ rest.getD i 0
 | [], m => ⟨yU _, by simp⟩
 | i :: w, m => by
  have h := lowR_le rest w (min m (rest.getD i 0))
  have e : lowR rest (i :: w) m = lowR rest w (min m (rest.getD i 0)) := rfl
  rw [e]
  refine ⟨by omega, fun j hj => ?_⟩
  rw [vN] at hj
  rcases hj with rfl | hj
  ·omega
  ·exact h.2 j hj
theorem lowR_is (rest : List Int) : ∀ (w : List Nat) (m : Int), lowR rest w m = m ∨ ∃ i ∈ w, lowR rest w m = rest.getD i 0
 | [], m => .inl rfl
 | i :: w, m => by
  have e : lowR rest (i :: w) m = lowR rest w (min m (rest.getD i 0)) := rfl
  rw [e]
  rcases lowR_is rest w (min m (rest.getD i 0)) with h | ⟨j, hj, h⟩
  ·rw [h]
   by_cases hm : m ≤ rest.getD i 0
   ·left; omega
   ·right; exact ⟨i, yB, by omega⟩
  ·right; exact ⟨j, yC _ hj, h⟩
theorem tkN_is {rest : List Int} {w : List Nat} (hw : w ≠ []) : (∀ i ∈ w, tkN rest w ≤ rest.getD i 0) ∧ ∃ i ∈ w, tkN rest w = rest.getD i 0 := by
 refine ⟨(lowR_le rest w _).2, ?_⟩
 rcases lowR_is rest w (rest.getD (w.getD 0 0) 0) with h | h
 ·cases w with
  | nil => exact absurd rfl hw
  | cons i w => exact ⟨i, yB, h⟩
 ·exact h
def cnt (rest : List Int) : Nat → Nat
 | 0 => 0
 | k + 1 => cnt rest k + (if 0 < rest.getD k 0 then 1 else 0)
theorem cnt_le {a b : List Int} (h : ∀ q, a.getD q 0 ≤ b.getD q 0) : ∀ n, cnt a n ≤ cnt b n
 | 0 => yS _
 | n + 1 => by
  have := cnt_le h n
  have := h n
  simp only [cnt]
  split <;> split <;> omega
theorem cnt_lt {a b : List Int} (h : ∀ q, a.getD q 0 ≤ b.getD q 0) {j : Nat} (h1 : a.getD j 0 ≤ 0) (h2 : 0 < b.getD j 0) : ∀ n, j < n → cnt a n < cnt b n
 | 0, hj => by omega
 | n + 1, hj => by
  have hq := h n
  simp only [cnt]
  by_cases e : j = n
  ·subst e
   have := cnt_le h j
   rw [if_neg (by omega), if_pos h2]; omega
  ·have := cnt_lt h h1 h2 n (by omega)
   split <;> split <;> omega
def isW (arcs : List Arc) : Int → List Nat → Int → Prop
 | a, [], b => a = b
 | a, i :: w, b => (gA arcs i).from_ = a ∧ isW arcs (gA arcs i).to w b
theorem isW_snoc {arcs : List Arc} {i : Nat} : ∀ {w : List Nat} {a b : Int}, isW arcs a w b → (gA arcs i).from_ = b → isW arcs a (w ++ [i]) (gA arcs i).to
 | [], a, b, h, hi => ⟨hi.trans h.symm, rfl⟩
 | j :: w, a, b, h, hi => ⟨h.1, isW_snoc h.2 hi⟩
theorem isW_drop {arcs : List Arc} : ∀ {w : List Nat} {a b : Int} {k : Nat}, isW arcs a w b → (hk : k < w.length) → isW arcs (gA arcs w[k]).from_ (w.drop k) b
 | [], _, _, k, _, hk => by simp at hk
 | j :: w, a, b, 0, h, _ => ⟨rfl, h.2⟩
 | j :: w, a, b, k + 1, h, hk => by
  have := isW_drop (k := k) h.2 (by simpa using hk)
  simpa using this
theorem valTo_tkAll (arcs : List Arc) (x d : Int) : ∀ (w : List Nat) (rest : List Int) (a b : Int), isW arcs a w b → (∀ i ∈ w, i < rest.length) → rest.length = arcs.length → valTo arcs x (tkAll d rest w) arcs.length = valTo arcs x rest arcs.length - (if a = x then d else 0) + (if b = x then d else 0)
 | [], rest, a, b, h, _, _ => by
  have : a = b := h
  subst this
  show valTo arcs x rest arcs.length = _
  omega
 | i :: w, rest, a, b, h, hl, hr => by
  have hi := hl i yB
  have ih := valTo_tkAll arcs x d w (tk1 d rest i) (gA arcs i).to b h.2 (fun j hj => by simp only [tk1, List.length_set]; exact hl j (yC _ hj)) (by simp [tk1, hr])
  show valTo arcs x (tkAll d (tk1 d rest i) w) arcs.length = _
  rw [ih]
  have hs : tk1 d rest i = rest.set i (rest.getD i 0 + (-d)) := by simp only [tk1]; congr 1
  rw [hs, valTo_set arcs x rest i (-d) hi, if_pos (by omega), h.1]
  split <;> split <;> split <;> omega
def firstI (arcs : List Arc) (rest : List Int) (at_ : Int) : Option Nat := (yM arcs.length).find? fun i => decide ((gA arcs i).from_ = at_) && decide (0 < rest.getD i 0)
def seenI (arcs : List Arc) (way : List Nat) (at_ : Int) : Option Nat := way.findIdx? fun i => decide ((gA arcs i).from_ = at_)
def att (arcs : List Arc) (t : Int) : Nat → List Int → List Nat → Int → List Int × Option (List Nat)
 | 0, rest, _, _ => (rest, none)
 | n + 1, rest, way, at_ => if at_ = t then (rest, some way) else match firstI arcs rest at_ with
  | none => (rest, some [])
  | some i => match seenI arcs (way ++ [i]) (gA arcs i).to with
   | some k => (tkR rest ((way ++ [i]).drop k), none)
   | none => att arcs t n rest (way ++ [i]) (gA arcs i).to
structure Fv (N : Nat) (arcs : List Arc) (f t : Int) (rest : List Int) : Prop where
 len : rest.length = arcs.length
 rng : ∀ q, 0 ≤ rest.getD q 0 ∧ rest.getD q 0 ≤ 1073741824
 con : ∀ j : Int, 0 ≤ j → j < N → j ≠ f → j ≠ t → valTo arcs j rest arcs.length = 0
structure Wv (N : Nat) (arcs : List Arc) (f : Int) (rest : List Int) (way : List Nat) (at_ : Int) : Prop where
 walk : isW arcs f way at_
 pos : ∀ i ∈ way, i < arcs.length ∧ 0 < rest.getD i 0
 nod : (way.map fun i => (gA arcs i).from_).Nodup
 new : at_ ∉ way.map fun i => (gA arcs i).from_
 rng : 0 ≤ at_ ∧ at_ < N
theorem out_le {arcs : List Arc} {rest : List Int} {v : Int} (hr : ∀ q, 0 ≤ rest.getD q 0) : ∀ n, (∀ i, i < n → (gA arcs i).from_ = v → rest.getD i 0 ≤ 0) → valTo arcs v rest n ≤ 0
 | 0, _ => yU _
 | n + 1, h => by
  have ih := out_le hr n fun i hi => h i (by omega)
  have h1 := hr n
  have h2 := h n (by omega)
  have e : valTo arcs v rest (n + 1) = valTo arcs v rest n + (if (gA arcs n).from_ = v then rest.getD n 0 else 0) - (if (gA arcs n).to = v then rest.getD n 0 else 0) := rfl
  rw [e]
  by_cases c : (gA arcs n).from_ = v
  ·have := h2 c
   rw [if_pos c]; split <;> omega
  ·rw [if_neg c]; split <;> omega
theorem out_lt {arcs : List Arc} {rest : List Int} {v : Int} (hr : ∀ q, 0 ≤ rest.getD q 0) {j : Nat} (hj : (gA arcs j).to = v) (hp : 0 < rest.getD j 0) : ∀ n, j < n → (∀ i, i < n → (gA arcs i).from_ = v → rest.getD i 0 ≤ 0) → valTo arcs v rest n < 0
 | 0, h, _ => by omega
 | n + 1, hn, h => by
  have h1 := hr n
  have h2 := h n (by omega)
  have e : valTo arcs v rest (n + 1) = valTo arcs v rest n + (if (gA arcs n).from_ = v then rest.getD n 0 else 0) - (if (gA arcs n).to = v then rest.getD n 0 else 0) := rfl
  rw [e]
  by_cases ej : j = n
  ·subst ej
   have ih := out_le hr j fun i hi => h i (by omega)
   rw [if_pos hj]
   by_cases c : (gA arcs j).from_ = v
   ·have := h2 c; omega
   ·rw [if_neg c]; omega
  ·have ih := out_lt hr hj hp n (by omega) fun i hi => h i (by omega)
   by_cases c : (gA arcs n).from_ = v
   ·have := h2 c
    rw [if_pos c]; split <;> omega
   ·rw [if_neg c]; split <;> omega
theorem first_ex {N : Nat} {arcs : List Arc} {f t : Int} {rest : List Int} {way : List Nat} {at_ : Int} (hF : Fv N arcs f t rest) (hv : 0 < valTo arcs f rest arcs.length) (hW : Wv N arcs f rest way at_) (hat : at_ ≠ t) : ∃ i, firstI arcs rest at_ = some i := by
 cases hfi : firstI arcs rest at_ with
 | some i => exact ⟨i, rfl⟩
 | none =>
  unfold firstI at hfi
  rw [List.find?_eq_none] at hfi
  have hno : ∀ i, i < arcs.length → (gA arcs i).from_ = at_ → rest.getD i 0 ≤ 0 := by
   intro i hi hf
   have := hfi i (yK.2 hi)
   simp [hf] at this
   have h2 : rest.getD i 0 = rest[i]?.getD 0 := yA
   omega
  exfalso
  by_cases he : way = []
  ·have h1 : f = at_ := by have := hW.walk; rw [he] at this; exact this
   have := out_le (fun q => (hF.rng q).1) arcs.length hno
   rw [← h1] at this; omega
  ·have hlast : ∃ j ∈ way, (gA arcs j).to = at_ := by
    have : ∀ (w : List Nat) (a : Int), w ≠ [] → isW arcs a w at_ → ∃ j ∈ w, (gA arcs j).to = at_ := by
     intro w
     induction w with
     | nil => intro a h; exact absurd rfl h
     | cons j w ih =>
      intro a _ h
      cases w with
      | nil => exact ⟨j, yB, h.2⟩
      | cons k w =>
       obtain ⟨q, h1, h2⟩ := ih (gA arcs j).to (by simp) h.2
       exact ⟨q, yC _ h1, h2⟩
    exact this way f he hW.walk
   obtain ⟨j, hj, hjt⟩ := hlast
   have hp := hW.pos j hj
   have hlt := out_lt (fun q => (hF.rng q).1) hjt hp.2 arcs.length hp.1 hno
   have haf : at_ ≠ f := by
    intro e
    apply hW.new
    cases way with
    | nil => exact absurd rfl he
    | cons k w => rw [e, ← hW.walk.1]; exact uR (f := fun i => (gA arcs i).from_) yB
   have := hF.con at_ hW.rng.1 hW.rng.2 haf hat
   omega
theorem first_is {arcs : List Arc} {rest : List Int} {at_ : Int} {i : Nat} (h : firstI arcs rest at_ = some i) : i < arcs.length ∧ (gA arcs i).from_ = at_ ∧ 0 < rest.getD i 0 := by
 unfold firstI at h
 have h1 := List.find?_some h
 have h2 := uS h
 simp only [vZ, decide_eq_true_eq] at h1
 exact ⟨yK.1 h2, h1⟩
end Go.Fx.P.F
namespace Go.Fx.P.F
open Go Go.Fx Go.Proofs
theorem seen_is {arcs : List Arc} {way : List Nat} {at_ : Int} {k : Nat} (h : seenI arcs way at_ = some k) : ∃ hk : k < way.length, (gA arcs way[k]).from_ = at_ ∧ ∀ j (hj : j < way.length), j < k → (gA arcs way[j]).from_ ≠ at_ := by
 unfold seenI at h
 rw [uF] at h
 obtain ⟨hk, h1, h2⟩ := h
 refine ⟨hk, by simpa using h1, fun j hj hlt => ?_⟩
 have := h2 j hlt
 simpa using this
theorem seen_no {arcs : List Arc} {way : List Nat} {at_ : Int} (h : seenI arcs way at_ = none) : at_ ∉ way.map fun i => (gA arcs i).from_ := by
 unfold seenI at h
 rw [uG] at h
 intro hm
 rw [yI] at hm
 obtain ⟨i, hi, he⟩ := hm
 have := h i hi
 simp [he] at this
theorem nodup_of_map {α β : Type} {g : α → β} : ∀ {l : List α}, (l.map g).Nodup → l.Nodup
 | [], _ => List.nodup_nil
 | x :: r, h => by
  rw [yY, vM] at h
  rw [vM]
  exact ⟨fun hx => h.1 (uR hx), nodup_of_map h.2⟩
section
variable {N : Nat} {arcs : List Arc} {f t : Int}
theorem Wv.begin (hf : 0 ≤ f ∧ f < N) (rest : List Int) : Wv N arcs f rest [] f := ⟨rfl, by simp, by simp, by simp, hf⟩
theorem Wv.len {rest : List Int} {way : List Nat} {at_ : Int} (hV : Val N arcs) (h : Wv N arcs f rest way at_) : way.length ≤ N := by
 have := nodup_le N h.nod (by
  intro v hv
  rw [yI] at hv
  obtain ⟨i, hi, rfl⟩ := hv
  exact (val_in hV (h.pos i hi).1).1)
 simpa using this
theorem Wv.half {rest : List Int} {way : List Nat} {at_ : Int} {i : Nat} (h : Wv N arcs f rest way at_) (hi : firstI arcs rest at_ = some i) : isW arcs f (way ++ [i]) (gA arcs i).to ∧ (∀ j ∈ way ++ [i], j < arcs.length ∧ 0 < rest.getD j 0) ∧ ((way ++ [i]).map fun i => (gA arcs i).from_).Nodup := by
 have h1 := first_is hi
 refine ⟨isW_snoc h.walk h1.2.1, fun j hj => ?_, ?_⟩
 ·rw [uB, yZ] at hj
  rcases hj with hj | rfl
  ·exact h.pos j hj
  ·exact ⟨h1.1, h1.2.2⟩
 ·rw [yG, List.nodup_append]
  refine ⟨h.nod, by simp, fun a ha b hb => ?_⟩
  rw [yY, vO, yZ] at hb
  rw [hb, h1.2.1]
  intro e
  rw [e] at ha
  exact h.new ha
theorem Wv.more {rest : List Int} {way : List Nat} {at_ : Int} {i : Nat} (hV : Val N arcs) (h : Wv N arcs f rest way at_) (hi : firstI arcs rest at_ = some i) (hs : seenI arcs (way ++ [i]) (gA arcs i).to = none) : Wv N arcs f rest (way ++ [i]) (gA arcs i).to := by
 obtain ⟨h1, h2, h3⟩ := h.half hi
 exact ⟨h1, h2, h3, seen_no hs, (val_in hV (first_is hi).1).2⟩
theorem take_ok {rest : List Int} (hF : Fv N arcs f t rest) {w : List Nat} {a b : Int} (hw : isW arcs a w b) (hne : w ≠ []) (hnd : w.Nodup) (hp : ∀ j ∈ w, j < arcs.length ∧ 0 < rest.getD j 0) :
  0 < tkN rest w ∧ (tkR rest w).length = arcs.length ∧ (∀ q, 0 ≤ (tkR rest w).getD q 0 ∧ (tkR rest w).getD q 0 ≤ 1073741824) ∧ cnt (tkR rest w) arcs.length < cnt rest arcs.length ∧
   ∀ x, valTo arcs x (tkR rest w) arcs.length = valTo arcs x rest arcs.length - (if a = x then tkN rest w else 0) + (if b = x then tkN rest w else 0) := by
 obtain ⟨h1, j, hj, h2⟩ := tkN_is (rest := rest) hne
 have h3 := hp j hj
 have hget := tkAll_get (d := tkN rest w) hnd (rest := rest) (fun i hi => by rw [hF.len]; exact (hp i hi).1)
 have hget2 : ∀ q, (tkR rest w).getD q 0 = rest.getD q 0 - (if q ∈ w then tkN rest w else 0) := hget
 have h0 : 0 < tkN rest w := by rw [h2]; exact h3.2
 refine ⟨h0, by rw [tkR_len, hF.len], fun q => ?_, ?_, fun x => valTo_tkAll arcs x _ w rest a b hw (fun i hi => by rw [hF.len]; exact (hp i hi).1) hF.len⟩
 ·have hr := hF.rng q
  rw [hget2]
  by_cases hq : q ∈ w
  ·have := h1 q hq
   rw [if_pos hq]; omega
  ·rw [if_neg hq]; omega
 ·refine cnt_lt (fun q => ?_) (j := j) ?_ h3.2 arcs.length h3.1
  ·rw [hget2]; split <;> omega
  ·rw [hget2, if_pos hj]; omega
theorem take_Fv {rest : List Int} (hF : Fv N arcs f t rest) {w : List Nat} {a b : Int} (hw : isW arcs a w b) (hne : w ≠ []) (hnd : w.Nodup) (hp : ∀ j ∈ w, j < arcs.length ∧ 0 < rest.getD j 0) (hab : a = b ∨ (a = f ∧ b = t)) : Fv N arcs f t (tkR rest w) := by
 obtain ⟨_, h1, h2, _, h3⟩ := take_ok hF hw hne hnd hp
 refine ⟨h1, h2, fun j q1 q2 q3 q4 => ?_⟩
 rw [h3, hF.con j q1 q2 q3 q4]
 rcases hab with rfl | ⟨rfl, rfl⟩
 ·split <;> omega
 ·rw [if_neg (fun e => q3 e.symm), if_neg (fun e => q4 e.symm)]; rfl
def AttOk (N : Nat) (arcs : List Arc) (f t : Int) (rest : List Int) (r : List Int × Option (List Nat)) : Prop :=
 (∃ w, r = (rest, some w) ∧ w ≠ [] ∧ isW arcs f w t ∧ w.Nodup ∧ ∀ j ∈ w, j < arcs.length ∧ 0 < rest.getD j 0) ∨
 (∃ rest', r = (rest', none) ∧ Fv N arcs f t rest' ∧ valTo arcs f rest' arcs.length = valTo arcs f rest arcs.length ∧ cnt rest' arcs.length < cnt rest arcs.length)
theorem att_ok (hV : Val N arcs) (hft : f ≠ t) {rest : List Int} (hF : Fv N arcs f t rest) (hv : 0 < valTo arcs f rest arcs.length) : ∀ (n : Nat) (way : List Nat) (at_ : Int), Wv N arcs f rest way at_ → N + 1 = way.length + n → AttOk N arcs f t rest (att arcs t n rest way at_)
 | 0, way, at_, hW, hn => by
  have := hW.len hV
  omega
 | n + 1, way, at_, hW, hn => by
  unfold att
  by_cases hat : at_ = t
  ·rw [if_pos hat]
   refine .inl ⟨way, rfl, ?_, hat ▸ hW.walk, nodup_of_map hW.nod, hW.pos⟩
   intro he
   have := hW.walk
   rw [he] at this
   exact hft (this.trans hat)
  ·rw [if_neg hat]
   obtain ⟨i, hi⟩ := first_ex hF hv hW hat
   rw [hi]
   simp only
   cases hs : seenI arcs (way ++ [i]) (gA arcs i).to with
   | none => exact att_ok hV hft hF hv n (way ++ [i]) _ (hW.more hV hi hs) (by simp; omega)
   | some k =>
    obtain ⟨hk, h1, _⟩ := seen_is hs
    obtain ⟨g1, g2, g3⟩ := hW.half hi
    have hd := isW_drop g1 hk
    rw [h1] at hd
    have hne : (way ++ [i]).drop k ≠ [] := by
     intro e
     have := congrArg vU e
     rw [vA, vB] at this
     omega
    have hnd : ((way ++ [i]).drop k).Nodup := vP (vV _ _) (nodup_of_map g3)
    have hp : ∀ j ∈ (way ++ [i]).drop k, j < arcs.length ∧ 0 < rest.getD j 0 := fun j hj => g2 j (vW hj)
    have hto := take_ok hF hd hne hnd hp
    refine .inr ⟨_, rfl, take_Fv hF hd hne hnd hp (.inl rfl), ?_, hto.2.2.2.1⟩
    rw [hto.2.2.2.2]
    split <;> omega
inductive PW (N : Nat) (arcs : List Arc) (f t : Int) : List Int → List Int → List Nat → Prop where
 | way {rest : List Int} {w : List Nat} (h : att arcs t (N + 1) rest [] f = (rest, some w)) : PW N arcs f t rest rest w
 | circ {rest rest1 rest' : List Int} {w : List Nat} (h : att arcs t (N + 1) rest [] f = (rest1, none)) (h2 : PW N arcs f t rest1 rest' w) : PW N arcs f t rest rest' w
inductive PR (N : Nat) (arcs : List Arc) (f t : Int) : List Int → List (List Nat) → List Int → Prop where
 | stop {rest : List Int} (h : valTo arcs f rest arcs.length ≤ 0) : PR N arcs f t rest [] []
 | step {rest rest1 : List Int} {w : List Nat} {ws : List (List Nat)} {ns : List Int} (h : 0 < valTo arcs f rest arcs.length) (h2 : PW N arcs f t rest rest1 w) (h3 : PR N arcs f t (tkR rest1 w) ws ns) : PR N arcs f t rest (w :: ws) (tkN rest1 w :: ns)
theorem PW.ok (hV : Val N arcs) (hf : 0 ≤ f ∧ f < N) (hft : f ≠ t) : ∀ (c : Nat) (rest : List Int), cnt rest arcs.length ≤ c → Fv N arcs f t rest → 0 < valTo arcs f rest arcs.length →
  ∃ rest1 w, PW N arcs f t rest rest1 w ∧ Fv N arcs f t rest1 ∧ valTo arcs f rest1 arcs.length = valTo arcs f rest arcs.length ∧ cnt rest1 arcs.length ≤ cnt rest arcs.length ∧ w ≠ [] ∧ isW arcs f w t ∧ w.Nodup ∧ ∀ j ∈ w, j < arcs.length ∧ 0 < rest1.getD j 0
 | c, rest, hc, hF, hv => by
  rcases att_ok hV hft hF hv (N + 1) [] f (Wv.begin hf rest) (by simp) with ⟨w, h1, h2, h3, h4, h5⟩ | ⟨rest', h1, h2, h3, h4⟩
  ·exact ⟨rest, w, .way h1, hF, rfl, yS _, h2, h3, h4, h5⟩
  ·cases c with
   | zero => omega
   | succ c =>
    obtain ⟨rest1, w, g1, g2, g3, g4, g5⟩ := PW.ok hV hf hft c rest' (by omega) h2 (by omega)
    exact ⟨rest1, w, .circ h1 g1, g2, g3.trans h3, by omega, g5⟩
theorem PR.ex (hV : Val N arcs) (hf : 0 ≤ f ∧ f < N) (hft : f ≠ t) : ∀ (c : Nat) (rest : List Int), cnt rest arcs.length ≤ c → Fv N arcs f t rest → ∃ ws ns, PR N arcs f t rest ws ns
 | c, rest, hc, hF => by
  by_cases hv : 0 < valTo arcs f rest arcs.length
  ·obtain ⟨rest1, w, g1, g2, g3, g4, g5, g6, g7, g8⟩ := PW.ok hV hf hft _ rest (yS _) hF hv
   have ht := take_ok g2 g6 g5 g7 g8
   cases c with
   | zero =>
    have := ht.2.2.2.1
    omega
   | succ c =>
    obtain ⟨ws, ns, h⟩ := PR.ex hV hf hft c (tkR rest1 w) (by have := ht.2.2.2.1; omega) (take_Fv g2 g6 g5 g7 g8 (.inr ⟨rfl, rfl⟩))
    exact ⟨_, _, .step hv g1 h⟩
  ·exact ⟨[], [], .stop (by omega)⟩
theorem PW.det {rest r1 r2 : List Int} {w1 w2 : List Nat} (h : PW N arcs f t rest r1 w1) (h2 : PW N arcs f t rest r2 w2) : r1 = r2 ∧ w1 = w2 := by
 induction h with
 | way h => cases h2 with
  | way g => rw [h] at g; simp at g; exact ⟨rfl, g⟩
  | circ g _ => rw [h] at g; simp at g
 | circ h _ ih => cases h2 with
  | way g => rw [h] at g; simp at g
  | circ g g2 =>
   rw [h] at g
   simp only [yV, and_true] at g
   subst g
   exact ih g2
theorem PR.circ {rest rest1 : List Int} {ws : List (List Nat)} {ns : List Int} (h : PR N arcs f t rest ws ns) (hv : 0 < valTo arcs f rest arcs.length) (ha : att arcs t (N + 1) rest [] f = (rest1, none)) (hv1 : 0 < valTo arcs f rest1 arcs.length) : PR N arcs f t rest1 ws ns := by
 cases h with
 | stop h => omega
 | step h h2 h3 =>
  cases h2 with
  | way g => rw [ha] at g; simp at g
  | circ g g2 =>
   rw [ha] at g
   simp only [yV, and_true] at g
   subst g
   exact .step hv1 g2 h3
theorem PR.way {rest : List Int} {w : List Nat} {ws : List (List Nat)} {ns : List Int} (h : PR N arcs f t rest ws ns) (hv : 0 < valTo arcs f rest arcs.length) (ha : att arcs t (N + 1) rest [] f = (rest, some w)) : ∃ ws' ns', ws = w :: ws' ∧ ns = tkN rest w :: ns' ∧ PR N arcs f t (tkR rest w) ws' ns' := by
 cases h with
 | stop h => omega
 | step h h2 h3 =>
  obtain ⟨rfl, rfl⟩ := (PW.way ha).det h2
  exact ⟨_, _, rfl, rfl, h3⟩
end
end Go.Fx.P.F
namespace Go.Fx.P.F
open Go Go.Fx Go.Proofs
set_option maxRecDepth 20000
def encN (i : Nat) : List V := [.i i]
def rows (w : List Nat) : List (List V) := w.map encN
theorem encN_0 (x : Nat) : (encN x)[0]? = some (.i x) := rfl
theorem rows_len {w : List Nat} : (rows w).length = w.length := by simp [rows]
theorem rows_get {w : List Nat} {i : Nat} (h : i < (rows w).length) : (rows w)[i] = encN (w[i]'(by simpa [rows] using h)) := by simp [rows]
def zI : Option Nat → Int
 | some i => i
 | none => -1
end Go.Fx.P.F
namespace Go.Fx.P.F
open Go Go.Fx Go.Proofs
set_option maxRecDepth 20000
theorem lowR_snoc (rest : List Int) (w : List Nat) (m : Int) (i : Nat) : lowR rest (w ++ [i]) m = min (lowR rest w m) (rest.getD i 0) := by simp [lowR, List.foldl_append]
theorem tkAll_snoc (d : Int) (rest : List Int) (w : List Nat) (i : Nat) : tkAll d rest (w ++ [i]) = tk1 d (tkAll d rest w) i := by simp [tkAll, List.foldl_append]
theorem low_in {rest : List Int} (hr : ∀ q, 0 ≤ rest.getD q 0 ∧ rest.getD q 0 ≤ 1073741824) : ∀ (w : List Nat) (m : Int), 0 ≤ m ∧ m ≤ 1073741824 → 0 ≤ lowR rest w m ∧ lowR rest w m ≤ 1073741824
 | [], m, h => h
 | i :: w, m, h => low_in hr w (min m (rest.getD i 0)) (by have := hr i; omega)
def takeH (rest : List Int) : List Blk := [.arr 1 (rest.map encI)]
theorem ok101 (rest : List Int) (w : List Nat) (hr : ∀ q, 0 ≤ rest.getD q 0 ∧ rest.getD q 0 ≤ 1073741824) (hne : w ≠ []) (hnd : w.Nodup) (hw : ∀ i ∈ w, i < rest.length) (hl : rest.length ≤ 4096) (hwl : w.length ≤ 4096) :
  OkN 101 [.sl 0 0 rest.length, .bro 1 (rows w)] (takeH rest) (IsA (.i (tkN rest w)) (takeH (tkR rest w))) := by
 have h0 : 0 < w.length := uT.2 hne
 have hw0 : w.getD 0 0 = w[0] := by rw [yA, yD h0]; rfl
 have hwr0 := hw _ (yE h0)
 have hg0 : rest.getD w[0] 0 = rest[w[0]] := by rw [yA, yD hwr0]; rfl
 have htn := low_in hr w (rest.getD (w.getD 0 0) 0) (hr _)
 refine okN_of [0] lw101 (by simp) ⟨trivial, trivial⟩ rfl ?_
 have h00 : vK 0 = 0 := rfl
 unfold c101 takeH
 simp -implicitDefEqProofs only [rX,↓rY,rZ,ofConst,↓reduceIte,Nat.reduceEqDiff,arrSz,reduceCtorEq,cxN,args0,cxN,rows_len,rows_get,encN_0,h00]
 refine ⟨⟨by omega, by omega⟩, by simpa using h0, ⟨by omega, by omega⟩, by simpa using hwr0, fun hm => ?_⟩
 refine loopP_intro (fun k : Nat => ⟨[(18, .i k), (17, .i w.length), (16, .bro 1 (rows w)), (5, .i (lowR rest (w.take k) rest[w[0]])), (1, .bro 1 (rows w)), (0, .sl 0 0 rest.length)], takeH rest, 0⟩) (fun k => k ≤ w.length) (fun k => w.length - k) 0 (by simp) ?_ ?_
 ·unfold takeH
  simp -implicitDefEqProofs only [rX,↓reduceIte,Nat.reduceEqDiff,reduceCtorEq,leE,leH,leB,keepP,liveP,wfE,wfB,wfV,yF,lowR,List.foldl_nil]
  first | done | rfl
 intro k hk
 unfold takeH
 simp -implicitDefEqProofs only [rX,↓rY,rZ,ofConst,↓reduceIte,Nat.reduceEqDiff,arrSz,reduceCtorEq,leE,leH,leB,keepP,liveP,wfE,wfB,wfV,rows_len,rows_get,encN_0]
 simp only [br, decide_eq_true_eq, decide_eq_false_iff_not]
 refine ⟨fun h => ⟨⟨by omega, h⟩, by omega, ?_⟩, fun h => ?_⟩
 ·have hk1 : k < w.length := by omega
  have hwk := hw _ (yE hk1)
  have hgk : rest.getD w[k] 0 = rest[w[k]] := by rw [yA, yD hwk]; rfl
  refine ⟨⟨by omega, by omega⟩, hwk, by simp only [lo, hi]; omega, k + 1, ⟨by omega, by omega⟩, by omega, ?_⟩
  rw [List.take_add_one, yD hk1, Option.toList_some, lowR_snoc, hgk]
 ·have hke : k = w.length := by omega
  subst hke
  intro _
  rw [uH]
  have hlow : lowR rest w rest[w[0]] = tkN rest w := by unfold tkN; rw [hw0, hg0]
  rw [hlow]
  refine loopP_intro (fun k : Nat => ⟨[(31, .i k), (30, .i w.length), (29, .bro 1 (rows w)), (5, .i (tkN rest w)), (0, .sl 0 0 rest.length)], takeH (tkAll (tkN rest w) rest (w.take k)), 0⟩) (fun k => k ≤ w.length) (fun k => w.length - k) 0 (by simp) ?_ ?_
  ·unfold takeH
   simp -implicitDefEqProofs only [rX,↓reduceIte,Nat.reduceEqDiff,reduceCtorEq,leE,leH,leB,keepP,liveP,wfE,wfB,wfV,yF,tkAll,List.foldl_nil]
  intro k hk
  unfold takeH
  simp -implicitDefEqProofs only [rX,↓rY,rZ,ofConst,cells?,splice,↓reduceIte,Nat.reduceEqDiff,arrSz,reduceCtorEq,resP,tupV,leE,leH,leB,keepP,liveP,wfE,wfB,wfV,isD,isC,rows_len,rows_get,encN_0,tkAll_len,mapI_set,retP_isA]
  simp only [br, decide_eq_true_eq, decide_eq_false_iff_not]
  refine ⟨fun h => ⟨⟨by omega, h⟩, by omega, ?_⟩, fun h => ?_⟩
  ·have hk1 : k < w.length := by omega
   have hwk := hw _ (yE hk1)
   have hgk : (tkAll (tkN rest w) rest (w.take k)).getD w[k] 0 = (tkAll (tkN rest w) rest (w.take k))[w[k]]'(by rw [tkAll_len]; exact hwk) := by rw [yA, yD (by rw [tkAll_len]; exact hwk)]; rfl
   have hbd := tkAll_get (d := tkN rest w) (w := w.take k) (rest := rest) (vP (List.take_sublist _ _) hnd) (fun i hi => hw i (List.mem_of_mem_take hi)) w[k]
   rw [hgk] at hbd
   have hrk := hr w[k]
   have htn2 : 0 ≤ tkN rest w ∧ tkN rest w ≤ 1073741824 := htn
   have hbd2 : -1073741824 ≤ (tkAll (tkN rest w) rest (w.take k))[w[k]]'(by rw [tkAll_len]; exact hwk) ∧ (tkAll (tkN rest w) rest (w.take k))[w[k]]'(by rw [tkAll_len]; exact hwk) ≤ 1073741824 := by
    rw [hbd]; split <;> omega
   refine ⟨⟨by omega, by omega⟩, hwk, ⟨by simp only [lo]; omega, by simp only [hi]; omega⟩, ⟨by omega, by omega⟩, hwk, by simp only [lo, hi]; omega, k + 1, ⟨by omega, by omega⟩, by omega, ?_⟩
   rw [List.take_add_one, yD hk1, Option.toList_some, tkAll_snoc]
   simp only [tk1, hgk]
  ·have hke : k = w.length := by omega
   subst hke
   rw [uH]
   rfl
end Go.Fx.P.F
namespace Go.Fx.P.F
open Go Go.Fx Go.Proofs
set_option maxRecDepth 20000
theorem ok98n : Ok 98 [.bro 1 ([] : List (List V))] (fun r hs => (r = .nil ∧ hs = []) ∨ (r = .sl 0 0 0 ∧ hs = [.arr 1 []])) := by
 refine ok_of lw98 (by simp) ?_
 unfold c98
 simp -implicitDefEqProofs only [rX,↓rY,ofConst,↓reduceIte,Nat.reduceEqDiff,reduceCtorEq,freshP,litsP,resP,tupV,keepP,liveP,wfV,killE,killB,kill,St.kill,cxN,args0,retP_eq]
 refine ⟨fun h => absurd rfl h, fun _ => ⟨⟨[], ⟨by simp [leH], vG _, by simp [wfB]⟩, .inl rfl⟩, .inl trivial, by decide, [.arr 1 []], ⟨by simp [leH, leB], by simp, trivial, by simp [wfB]⟩, .inr rfl⟩⟩
theorem ok98c (a : Int) (l : List Int) (h : (a :: l).length ≤ 4096) : Ok 98 [.bro 1 ((a :: l).map encI)] (IsA (.sl 0 0 (a :: l).length) [.arr 1 ((a :: l).map encI)]) := by
 refine ok_of lw98 (by simp) ?_
 unfold c98
 simp -implicitDefEqProofs only [rX,↓rY,ofConst,↓reduceIte,Nat.reduceEqDiff,reduceCtorEq,freshP,litsP,resP,tupV,leH,leB,keepP,liveP,wfB,wfV,killE,killB,kill,St.kill,Nat.reduceLeDiff,cxN,args0,retP_isA]
 rw [yW] at h
 exact ⟨fun _ => by omega, fun h => h.elim⟩
theorem ok98 (l : List Int) (h : l.length ≤ 4096) : Ok 98 [.bro 1 (l.map encI)] (IsA (.sl 0 0 l.length) [.arr 1 (l.map encI)]) := by
 cases l with
 | cons a l => exact ok98c a l h
 | nil =>
  refine ⟨ok98n.1, Fn_ghost ok98n.2 ?_⟩
  rintro r hs (⟨rfl, rfl⟩ | ⟨rfl, rfl⟩)
  ·exact ⟨_, _, ⟨rfl, rfl⟩, _, .virt 1 1 (by decide) (.nilE 0 0 rfl (.refl _)), by simp [leS, leE, get, leH, leB, keepP, wfE, wfV, liveP, wfB]⟩
  ·exact ⟨_, _, ⟨rfl, rfl⟩, _, .refl _, by simp [leS, leE, get, leH, leB, keepP, wfE, wfV, liveP, wfB]⟩
def restH2 (rest : List Int) : List Blk := [.var [.sl 1 0 rest.length], .arr 1 (rest.map encI)]
theorem ok99 (i : Nat) (rest : List Int) (hi : i < rest.length) : OkN 99 [.i i, .ptr 0 0 0] (restH2 rest) (IsA (.b (decide (0 < rest.getD i 0))) (restH2 rest)) := by
 have hg : rest.getD i 0 = rest[i] := by rw [yA, yD hi]; rfl
 refine okN_of [0, 1] lw99 (by simp) ⟨trivial, trivial, trivial⟩ rfl ?_
 rw [hg]
 unfold c99 restH2
 simp -implicitDefEqProofs only [rX,↓rY,rZ,ofConst,↓reduceIte,Nat.reduceEqDiff,arrSz,Nat.reduceAdd,reduceCtorEq,resP,tupV,leH,leB,leV,leVs,keepP,liveP,wfB,wfV,wfL,cxN,args0,cxN,retP_isA]
 exact ⟨⟨by omega, by omega⟩, hi, trivial⟩
def atH (N : Nat) (arcs : List Arc) (at_ : Int) : List Blk := [.var [.i N, .ro 4 (arcs.map Arc.enc)], .var [.i at_]]
theorem ok100 (N i : Nat) (arcs : List Arc) (at_ : Int) (hi : i < arcs.length) : OkN 100 [.i i, .ptr 0 0 0, .ptr 1 0 0] (atH N arcs at_) (IsA (.b (decide ((gA arcs i).from_ = at_))) (atH N arcs at_)) := by
 refine okN_of [0, 1] lw100 (by simp) ⟨trivial, trivial, trivial⟩ rfl ?_
 rw [getD_nil (a := ⟨0,0,0,0⟩) hi]
 unfold c100 atH
 simp -implicitDefEqProofs only [rX,↓rY,rZ,ofConst,↓reduceIte,Nat.reduceEqDiff,Nat.reduceAdd,reduceCtorEq,resP,tupV,leH,leB,leV,leVs,keepP,liveP,wfB,wfV,wfL,cxN,args0,cxN,retP_isA]
 exact ⟨⟨by omega, by omega⟩, hi, rfl⟩
def noP (p : Nat → Bool) (l : List Nat) (k : Nat) : Prop := ∀ j (hj : j < l.length), j < k → p l[j] = false
theorem noP_0 {p : Nat → Bool} {l : List Nat} : noP p l 0 := fun j hj h => by omega
theorem idx_stop {p : Nat → Bool} {l : List Nat} {k : Nat} (hk : k < l.length) (h1 : p l[k] = true) (h2 : noP p l k) : l.findIdx? p = some k := by
 rw [uF]
 exact ⟨hk, h1, fun j hj => by rw [h2 j (by omega) hj]; simp⟩
theorem idx_none {p : Nat → Bool} {l : List Nat} (h2 : noP p l l.length) : l.findIdx? p = none := by
 rw [uG]
 intro i hi
 obtain ⟨j, hj, rfl⟩ := yT hi
 exact h2 j hj hj
theorem no_more {p : Nat → Bool} {l : List Nat} {k : Nat} (hk : k < l.length) (h1 : p l[k] = false) (h2 : noP p l k) : noP p l (k + 1) := by
 intro j hj hlt
 by_cases e : j = k
 ·subst e; exact h1
 ·exact h2 j hj (by omega)
def posI (rest : List Int) (l : List Nat) : Option Nat := l.findIdx? fun i => decide (0 < rest.getD i 0)
theorem ok82a (l : List Nat) (rest : List Int) (hl : ∀ i ∈ l, i < rest.length) (hn : l.length ≤ 4096) : OkN 82 [.bro 1 (rows l), .clo 99 [.ptr 0 0 0]] (restH2 rest) (IsA (.i (zI (posI rest l))) (restH2 rest)) := by
 refine okN_of [0, 1] lw82 (by simp) ⟨trivial, trivial, trivial⟩ rfl ?_
 unfold c82 restH2
 simp -implicitDefEqProofs only [rX,↓rY,ofConst,↓reduceIte,Nat.reduceAdd,reduceCtorEq,cxN,args0,cxN,rows_len]
 intro hm
 refine loopP_intro (fun k : Nat => ⟨[(8, .i k), (7, .i l.length), (1, .clo 99 [.ptr 0 0 0]), (0, .bro 1 (rows l))], restH2 rest, 0⟩) (fun k => k ≤ l.length ∧ noP (fun i => decide (0 < rest.getD i 0)) l k) (fun k => l.length - k) 0 ⟨vG _, noP_0⟩ ?_ ?_
 ·unfold restH2
  simp -implicitDefEqProofs only [rX,↓reduceIte,Nat.reduceEqDiff,reduceCtorEq,leE,leH,leB,leV,leVs,keepP,liveP,wfE,wfB,wfV,wfL,leVs,leV,yF]
 rintro k ⟨hk, hv⟩
 unfold c82l0
 unfold restH2
 simp -implicitDefEqProofs only [rX,↓rY,ofConst,↓reduceIte,Nat.reduceEqDiff,Nat.reduceAdd,reduceCtorEq,resP,tupV,leH,leB,leV,leVs,keepP,liveP,wfB,wfV,wfL,rows_len,rows_get,encN_0,retP_isA]
 simp only [br, decide_eq_true_eq, decide_eq_false_iff_not]
 refine ⟨fun h => ⟨⟨by omega, h⟩, by omega, ?_⟩, fun h => ?_⟩
 ·have hk1 : k < l.length := by omega
  refine call_isN [0, 1] [.i l[k], .ptr 0 0 0] (.b (decide (0 < rest.getD l[k] 0))) (.b (decide (0 < rest.getD l[k] 0))) (restH2 rest) (restH2 rest) (restH2 rest) (ok99 l[k] rest (hl _ (yE hk1))) (by simp) rfl (by simp [lendsOk, lendOk, lends, lend, wkL, wk, pos]) (by simp [restH2]) rfl rfl ⟨trivial, trivial, trivial⟩ ?_
  unfold restH2
  cases hp : decide (0 < rest.getD l[k] 0) with
  | true =>
   simp -implicitDefEqProofs only [rX,↓rY,↓reduceIte,Nat.reduceEqDiff,Nat.reduceAdd,resP,tupV,leH,leB,leV,leVs,keepP,liveP,wfB,wfV,wfL,retP_isA,leVs,leV]
   rw [show posI rest l = some k from idx_stop hk1 hp hv]; rfl
  | false =>
   simp -implicitDefEqProofs only [rX,↓rY,ofConst,↓reduceIte,Nat.reduceEqDiff,Nat.reduceAdd,reduceCtorEq,leE,leH,leB,leV,leVs,keepP,liveP,wfE,wfB,wfV,wfL,leVs,leV]
   exact ⟨by simp only [lo, hi]; omega, k + 1, ⟨⟨by omega, no_more (p := fun i => decide (0 < rest.getD i 0)) hk1 hp hv⟩, by omega⟩, by simp⟩
 ·have hke : k = l.length := by omega
  subst hke
  rw [show posI rest l = none from idx_none (p := fun i => decide (0 < rest.getD i 0)) hv]; rfl
theorem ok82b (N : Nat) (w : List Nat) (arcs : List Arc) (at_ : Int) (hl : ∀ i ∈ w, i < arcs.length) (hn : w.length ≤ 4096) : OkN 82 [.bro 1 (rows w), .clo 100 [.ptr 0 0 0, .ptr 1 0 0]] (atH N arcs at_) (IsA (.i (zI (seenI arcs w at_))) (atH N arcs at_)) := by
 refine okN_of [0, 1] lw82 (by simp) ⟨trivial, trivial, trivial⟩ rfl ?_
 unfold c82 atH
 simp -implicitDefEqProofs only [rX,↓rY,ofConst,↓reduceIte,Nat.reduceAdd,reduceCtorEq,cxN,args0,cxN,rows_len]
 intro hm
 refine loopP_intro (fun k : Nat => ⟨[(8, .i k), (7, .i w.length), (1, .clo 100 [.ptr 0 0 0, .ptr 1 0 0]), (0, .bro 1 (rows w))], atH N arcs at_, 0⟩) (fun k => k ≤ w.length ∧ noP (fun i => decide ((gA arcs i).from_ = at_)) w k) (fun k => w.length - k) 0 ⟨vG _, noP_0⟩ ?_ ?_
 ·unfold atH
  simp -implicitDefEqProofs only [rX,↓reduceIte,Nat.reduceEqDiff,reduceCtorEq,leE,leH,leB,leV,leVs,keepP,liveP,wfE,wfB,wfV,wfL,leVs,leV,yF]
 rintro k ⟨hk, hv⟩
 unfold c82l0
 unfold atH
 simp -implicitDefEqProofs only [rX,↓rY,ofConst,↓reduceIte,Nat.reduceEqDiff,Nat.reduceAdd,reduceCtorEq,resP,tupV,leH,leB,leV,leVs,keepP,liveP,wfB,wfV,wfL,rows_len,rows_get,encN_0,retP_isA]
 simp only [br, decide_eq_true_eq, decide_eq_false_iff_not]
 refine ⟨fun h => ⟨⟨by omega, h⟩, by omega, ?_⟩, fun h => ?_⟩
 ·have hk1 : k < w.length := by omega
  refine call_isN [0, 1] [.i w[k], .ptr 0 0 0, .ptr 1 0 0] (.b (decide ((gA arcs w[k]).from_ = at_))) (.b (decide ((gA arcs w[k]).from_ = at_))) (atH N arcs at_) (atH N arcs at_) (atH N arcs at_) (ok100 N w[k] arcs at_ (hl _ (yE hk1))) (by simp) rfl (by simp [lendsOk, lendOk, lends, lend, wkL, wk, pos]) (by simp [atH]) ?_ rfl ⟨trivial, trivial, trivial⟩ ?_
  ·simp [atH, setAll, renB, rens, ren, back]
  unfold atH
  cases hp : decide ((gA arcs w[k]).from_ = at_) with
  | true =>
   simp -implicitDefEqProofs only [rX,↓rY,↓reduceIte,Nat.reduceEqDiff,Nat.reduceAdd,resP,tupV,leH,leB,leV,leVs,keepP,liveP,wfB,wfV,wfL,retP_isA,leVs,leV]
   rw [show seenI arcs w at_ = some k from idx_stop hk1 hp hv]; rfl
  | false =>
   simp -implicitDefEqProofs only [rX,↓rY,ofConst,↓reduceIte,Nat.reduceEqDiff,Nat.reduceAdd,reduceCtorEq,leE,leH,leB,leV,leVs,keepP,liveP,wfE,wfB,wfV,wfL,leVs,leV]
   exact ⟨by simp only [lo, hi]; omega, k + 1, ⟨⟨by omega, no_more (p := fun i => decide ((gA arcs i).from_ = at_)) hk1 hp hv⟩, by omega⟩, by simp⟩
 ·have hke : k = w.length := by omega
  subst hke
  rw [show seenI arcs w at_ = none from idx_none (p := fun i => decide ((gA arcs i).from_ = at_)) hv]; rfl
end Go.Fx.P.F
namespace Go.Fx.P.F
open Go Go.Fx Go.Proofs
set_option maxRecDepth 20000
theorem get4 {α : Type} {a b c d : α} {l : List α} {q : Nat} : (a :: b :: c :: d :: l)[q + 4]? = l[q]? := rfl
theorem set4 {α : Type} {a b c d x : α} {l : List α} {q : Nat} : (a :: b :: c :: d :: l).set (q + 4) x = a :: b :: c :: d :: l.set q x := rfl
def fromN (arcs : List Arc) (v : Int) (k : Nat) : List Nat := (yM k).filter fun i => decide ((gA arcs i).from_ = v)
theorem fromN_yes {R : List Arc} {v : Int} {k : Nat} (h : (gA R k).from_ = v) : fromN R v (k + 1) = fromN R v k ++ [k] := by
 simp [fromN, uI, vX, h]
theorem fromN_no {R : List Arc} {v : Int} {k : Nat} (h : (gA R k).from_ ≠ v) : fromN R v (k + 1) = fromN R v k := by
 simp [fromN, uI, vX, h]
theorem fromN_len {R : List Arc} {v : Int} {k : Nat} : (fromN R v k).length ≤ k := by
 have := List.length_filter_le (fun i => decide ((gA R i).from_ = v)) (yM k)
 rwa [yQ] at this
theorem fromN_lt {R : List Arc} {v : Int} {k i : Nat} (h : i ∈ fromN R v k) : i < k := by
 unfold fromN at h
 rw [List.mem_filter, yK] at h
 exact h.1
def begS (arcs : List Arc) (N k : Nat) : List (List V) := (yM N).map fun (v : Nat) => [.sl (v + 4) 0 (fromN arcs v k).length]
def begB (arcs : List Arc) (N k : Nat) : List Blk := (yM N).map fun (v : Nat) => .arr 1 (rows (fromN arcs v k))
theorem begS_len {arcs : List Arc} {N k : Nat} : (begS arcs N k).length = N := by simp [begS]
theorem begB_len {arcs : List Arc} {N k : Nat} : (begB arcs N k).length = N := by simp [begB]
theorem begS_get {arcs : List Arc} {N k v : Nat} (h : v < (begS arcs N k).length) : (begS arcs N k)[v] = [.sl (v + 4) 0 (fromN arcs v k).length] := by simp [begS]
theorem begB_in {arcs : List Arc} {N k v : Nat} {l : List Blk} (h : v < N) : (begB arcs N k ++ l)[v]? = some (.arr 1 (rows (fromN arcs v k))) := by
 rw [vD (by rw [begB_len]; exact h)]
 simp [begB, h]
theorem begB_out {arcs : List Arc} {N k q : Nat} {l : List Blk} : (begB arcs N k ++ l)[N + q]? = l[q]? := by
 rw [vR (by rw [begB_len]; omega), begB_len]; congr 1; omega
theorem begB_out0 {arcs : List Arc} {N k : Nat} {l : List Blk} : (begB arcs N k ++ l)[N]? = l[0]? := begB_out (q := 0)
theorem begB_set {arcs : List Arc} {N k q : Nat} {l : List Blk} {x : Blk} : (begB arcs N k ++ l).set (N + q) x = begB arcs N k ++ l.set q x := by
 rw [uE _ _ (by rw [begB_len]; omega), begB_len]; congr 2; omega
theorem begB_set0 {arcs : List Arc} {N k : Nat} {l : List Blk} {x : Blk} : (begB arcs N k ++ l).set N x = begB arcs N k ++ l.set 0 x := begB_set (q := 0)
theorem begB_put {arcs : List Arc} {N k v : Nat} {l : List Blk} {x : Blk} (h : v < N) : (begB arcs N k ++ l).set v x = (begB arcs N k).set v x ++ l := by
 rw [List.set_append_left _ _ (by rw [begB_len]; exact h)]
theorem begB_kill {arcs : List Arc} {N k : Nat} {M : List Nat} : (begB arcs N k).map (killB M) = begB arcs N k := by
 unfold begB
 rw [yL]
 rfl
theorem begS_next {arcs : List Arc} {N k v : Nat} (hv : v < N) (hf : (gA arcs k).from_ = v) : ((begS arcs N k).map (kills [v + 4])).set v [.sl (v + 4) 0 ((fromN arcs v k).length + 1)] = begS arcs N (k + 1) := by
 apply vE
 ·simp [begS]
 ·intro q h1 h2
  have hq : q < N := by simpa [begS] using h2
  rw [uD, begS_get]
  by_cases e : v = q
  ·subst e
   rw [if_pos rfl, fromN_yes hf, yH]; rfl
  ·rw [if_neg e, vS, begS_get, fromN_no (by rw [hf]; omega)]
   have : ¬ (q + 4 = v + 4) := by omega
   simp [kills, kill, this]
   omega
theorem begB_next {arcs : List Arc} {N k v : Nat} (hv : v < N) (hf : (gA arcs k).from_ = v) : (begB arcs N k).set v (.arr 1 (rows (fromN arcs v k) ++ [encN k])) = begB arcs N (k + 1) := by
 apply vE
 ·simp [begB]
 ·intro q h1 h2
  have hq : q < N := by simpa [begB] using h2
  rw [uD]
  simp only [begB, vS, List.getElem_range]
  by_cases e : v = q
  ·subst e
   rw [if_pos rfl, fromN_yes hf]
   simp [rows]
  ·rw [if_neg e, fromN_no (by rw [hf]; omega)]
theorem begB_wf {arcs : List Arc} {N k : Nat} {q : List Blk} : wfB q (begB arcs N k) := by
 have : ∀ l : List Blk, (∀ b ∈ l, ∃ els, b = .arr 1 els) → wfB q l := by
  intro l
  induction l with
  | nil => intro _; trivial
  | cons b r ih =>
   intro h
   obtain ⟨els, rfl⟩ := h b yB
   exact ih fun b hb => h b (yC _ hb)
 refine this _ fun b hb => ?_
 unfold begB at hb
 rw [yI] at hb
 obtain ⟨v, _, rfl⟩ := hb
 exact ⟨_, rfl⟩
theorem begS_wf {arcs : List Arc} {N k : Nat} {a b c d : Blk} : wfL (a :: b :: c :: d :: begB arcs N k) (begS arcs N k).flatten := by
 refine wfL_all fun x hx => ?_
 rw [vY] at hx
 obtain ⟨l, h1, h2⟩ := hx
 unfold begS at h1
 rw [yI] at h1
 obtain ⟨v, hv, rfl⟩ := h1
 rw [yK] at hv
 rw [yZ] at h2
 subst h2
 simp only [wfV, liveP, get4]
 have := begB_in (arcs := arcs) (k := k) (l := []) hv
 rw [yN] at this
 rw [this]
 trivial
theorem leH_beg {arcs : List Arc} {N k : Nat} {l : List Blk} : leH (begB arcs N k ++ l) (begB arcs N k) := by
 have : ∀ m : List Blk, (∀ b ∈ m, ∃ els, b = .arr 1 els) → leH (m ++ l) m := by
  intro m
  induction m with
  | nil => intro _; unfold leH; trivial
  | cons b r ih =>
   intro h
   obtain ⟨els, rfl⟩ := h b yB
   exact ⟨rfl, ih fun b hb => h b (yC _ hb)⟩
 refine this _ fun b hb => ?_
 unfold begB at hb
 rw [yI] at hb
 obtain ⟨v, _, rfl⟩ := hb
 exact ⟨_, rfl⟩
def hp4 (N : Nat) (arcs : List Arc) (rest : List Int) (cells : List (List V)) (bs : List Blk) : List Blk :=
 .var [.i N, .ro 4 (arcs.map Arc.enc)] :: .var [.sl 2 0 rest.length] :: .arr 1 (rest.map encI) :: .arv 1 cells :: bs
def envP (N : Nat) (flow : List Int) (f t : Int) : Env := [(13, .sl 3 0 N), (12, .ptr 1 0 0), (4, .ptr 0 0 0), (3, .ro 1 (flow.map encI)), (2, .i t), (1, .i f)]
def pat7 (N : Nat) (arcs : List Arc) (flow : List Int) (f t : Int) (k : Nat) : St :=
 ⟨(39, .i k) :: (38, .i arcs.length) :: (37, .ro 4 (arcs.map Arc.enc)) :: envP N flow f t, hp4 N arcs flow (begS arcs N k) (begB arcs N k), 0⟩
theorem body22a (N : Nat) (arcs : List Arc) (flow : List Int) (f t : Int) (hV : Val N arcs) {RR : St → Prop} {X : Nat → St → Prop}
  (hX : ∀ b y z, X 0 ⟨(40, y) :: (39, z) :: (38, .i arcs.length) :: (37, .ro 4 (arcs.map Arc.enc)) :: envP N flow f t, hp4 N arcs flow (begS arcs N arcs.length) (begB arcs N arcs.length), b⟩) (k : Nat) (hk : k ≤ arcs.length) :
  aw cx0 c76l0 (fun s' => ∃ g' : Nat, (g' ≤ arcs.length ∧ arcs.length - g' < arcs.length - k) ∧ leS cx0.fx s' (pat7 N arcs flow f t g')) X RR (pat7 N arcs flow f t k) := by
 have hL := hV.hl
 have hfl := fun v => fromN_len (R := arcs) (k := k) (v := v)
 unfold c76l0 pat7 envP hp4
 simp -implicitDefEqProofs only [rX,↓rY,rZ,rdK,ofConst,cells?,splice,↓reduceIte,Nat.reduceEqDiff,arrSz,Nat.reduceAdd,reduceCtorEq,freshP,litsP,isD,Nat.reduceLT,cxN,get4,set4,begB_len,begB_out,begB_out0,begB_set,begB_set0,begS_len,vH]
 simp only [br, decide_eq_true_eq, decide_eq_false_iff_not]
 refine ⟨fun h => ?_, fun h => ?_⟩
 ·have hk1 : k < arcs.length := by omega
  have hgk : gA arcs k = arcs[k] := getD_nil (a := ⟨0,0,0,0⟩) hk1
  have hf := (val_in hV hk1).1
  rw [hgk] at hf
  have hv : (gA arcs k).from_ = ((arcs[k].from_.toNat : Nat) : Int) := by rw [hgk]; omega
  refine ⟨⟨by omega, h⟩, by omega, hf, by omega, ?_⟩
  simp -implicitDefEqProofs only [rX,↓rY,ofConst,cells?,splice,↓reduceIte,Nat.reduceEqDiff,arrSz,reduceCtorEq,leE,leH,leB,leV,leVs,keepP,liveP,wfE,wfB,wfV,wfL,killE,killB,kill,kills,St.kill,isC,get4,set4,begS_len,begS_get,begB_in (show arcs[k].from_.toNat < N by omega)]
  have hvN : arcs[k].from_.toNat < N := by omega
  have hf2 := hfl (arcs[k].from_.toNat : Nat)
  rw [yG, begB_kill, begB_put hvN, vC (by rw [rows_len]; omega), begS_next hvN hv, show [V.v (Value.int IntKind.i64 (k : Int))] = encN k from rfl, begB_next hvN hv]
  exact ⟨⟨by rw [rows_len]; omega, by omega⟩, by omega, hf, by omega, by simp only [lo, hi]; omega, k + 1, ⟨by omega, by omega⟩, by omega, ⟨rfl, leH_beg⟩, begS_wf, begB_wf⟩
 ·have hke : k = arcs.length := by omega
  subst hke
  have := hX (N + 1 + 1 + 1 + 1) (.b (decide ((arcs.length : Int) < arcs.length))) (.i arcs.length)
  unfold envP hp4 at this
  exact this
end Go.Fx.P.F
namespace Go.Fx.P.F
open Go Go.Fx Go.Proofs
set_option maxRecDepth 20000
def begR (arcs : List Arc) (N : Nat) : List (List V) := (yM N).map fun (v : Nat) => [.ro 1 (rows (fromN arcs v arcs.length))]
theorem begR_len {arcs : List Arc} {N : Nat} : (begR arcs N).length = N := by simp [begR]
theorem begR_get {arcs : List Arc} {N v : Nat} (h : v < (begR arcs N).length) : (begR arcs N)[v] = [.ro 1 (rows (fromN arcs v arcs.length))] := by simp [begR]
theorem begR_wf {arcs : List Arc} {N : Nat} {h : List Blk} : wfL h (begR arcs N).flatten := by
 refine wfL_all fun x hx => ?_
 rw [vY] at hx
 obtain ⟨l, h1, h2⟩ := hx
 unfold begR at h1
 rw [yI] at h1
 obtain ⟨v, _, rfl⟩ := h1
 rw [yZ] at h2
 subst h2
 trivial
theorem begR_kill {arcs : List Arc} {N : Nat} {M : List Nat} : (begR arcs N).map (kills M) = begR arcs N := by
 unfold begR
 rw [yL]
 rfl
theorem begR_gv {arcs : List Arc} {N : Nat} {M : Nat → Bool} {h : List Blk} : (begR arcs N).map (gvL M h) = begR arcs N := by
 unfold begR
 rw [yL]
 rfl
theorem begR_mv {arcs : List Arc} {N i j : Nat} : (begR arcs N).map (mvL i j) = begR arcs N := by
 unfold begR
 rw [yL]
 rfl
theorem begS_give {arcs : List Arc} {N : Nat} {a b c d : Blk} : (begS arcs N arcs.length).map (gvL (fun k => decide (4 ≤ k)) (a :: b :: c :: d :: begB arcs N arcs.length)) = begR arcs N := by
 apply vE
 ·simp [begS, begR]
 ·intro v h1 h2
  have hv : v < N := by simpa [begR] using h2
  rw [vS, begS_get, begR_get]
  have hb : blk (a :: b :: c :: d :: begB arcs N arcs.length) (v + 4) = .arr 1 (rows (fromN arcs v arcs.length)) := by
   unfold blk
   have := begB_in (arcs := arcs) (k := arcs.length) (l := []) hv
   rw [yN] at this
   rw [yA, get4, this]; rfl
  simp only [gvL, gvV, hb]
  have : yJ (fromN arcs (↑v) arcs.length).length (rows (fromN arcs v arcs.length)) = rows (fromN arcs v arcs.length) := vC (by rw [rows_len]; omega)
  simp [rows_len, this]
def wcs (ws : List (List Nat)) : List (List V) := (yM ws.length).map fun j => [.sl (j + 8) 0 (ws.getD j []).length]
def wtl (ws : List (List Nat)) : List Blk := ws.map fun w => .arr 1 (rows w)
theorem wcs_len {ws : List (List Nat)} : (wcs ws).length = ws.length := by simp [wcs]
theorem wtl_len {ws : List (List Nat)} : (wtl ws).length = ws.length := by simp [wtl]
theorem wtl_out {ws : List (List Nat)} {q : Nat} {l : List Blk} : (wtl ws ++ l)[ws.length + q]? = l[q]? := by
 rw [vR (by rw [wtl_len]; omega), wtl_len]; congr 1; omega
theorem wtl_out0 {ws : List (List Nat)} {l : List Blk} : (wtl ws ++ l)[ws.length]? = l[0]? := wtl_out (q := 0)
theorem wtl_set {ws : List (List Nat)} {q : Nat} {l : List Blk} {x : Blk} : (wtl ws ++ l).set (ws.length + q) x = wtl ws ++ l.set q x := by
 rw [uE _ _ (by rw [wtl_len]; omega), wtl_len]; congr 2; omega
theorem wtl_set0 {ws : List (List Nat)} {l : List Blk} {x : Blk} : (wtl ws ++ l).set ws.length x = wtl ws ++ l.set 0 x := wtl_set (q := 0)
theorem wtl_all {ws : List (List Nat)} {b : Blk} (h : b ∈ wtl ws) : ∃ els, b = .arr 1 els := by
 unfold wtl at h
 rw [yI] at h
 obtain ⟨w, _, rfl⟩ := h
 exact ⟨_, rfl⟩
theorem wtl_kill {ws : List (List Nat)} {M : List Nat} : (wtl ws).map (killB M) = wtl ws := by
 unfold wtl
 rw [yL]; rfl
theorem wtl_mv {ws : List (List Nat)} {i j : Nat} : (wtl ws).map (mvB i j) = wtl ws := by
 unfold wtl
 rw [yL]; rfl
theorem wtl_gv {ws : List (List Nat)} {M : Nat → Bool} {h : List Blk} : (wtl ws).map (gvB M h) = wtl ws := by
 unfold wtl
 rw [yL]; rfl
theorem arr_wf {q : List Blk} : ∀ {l : List Blk}, (∀ b ∈ l, ∃ els, b = .arr 1 els) → wfB q l
 | [], _ => trivial
 | b :: r, h => by
  obtain ⟨els, rfl⟩ := h b yB
  exact arr_wf (l := r) fun b hb => h b (yC _ hb)
theorem wtl_wf {ws : List (List Nat)} {q : List Blk} : wfB q (wtl ws) := arr_wf fun _ h => wtl_all h
theorem arr_leH {l : List Blk} : ∀ {m : List Blk}, (∀ b ∈ m, ∃ els, b = .arr 1 els) → leH (m ++ l) m
 | [], _ => by unfold leH; trivial
 | b :: r, h => by
  obtain ⟨els, rfl⟩ := h b yB
  exact ⟨rfl, arr_leH (m := r) fun b hb => h b (yC _ hb)⟩
theorem leH_wtl {ws : List (List Nat)} {l : List Blk} : leH (wtl ws ++ l) (wtl ws) := arr_leH fun _ h => wtl_all h
theorem leH_wtl0 {ws : List (List Nat)} : leH (wtl ws) (wtl ws) := by
 have := leH_wtl (ws := ws) (l := [])
 rwa [yN] at this
theorem wtl_in {ws : List (List Nat)} {l : List Blk} {j : Nat} (h : j < ws.length) : (wtl ws ++ l)[j]? = some (.arr 1 (rows (ws.getD j []))) := by
 rw [vD (by rw [wtl_len]; exact h)]
 simp [wtl, h]
theorem gvH_hi {h : List Blk} : ∀ {l : List Blk} {k : Nat}, 7 ≤ k → gvH (fun k => k == 6) h k l = l.map (gvB (fun k => k == 6) h)
 | [], _, _ => rfl
 | b :: r, k, hk => by
  have e : ((k == 6) = true) = False := by simp; omega
  simp only [gvH, yY, e, if_false, gvH_hi (l := r) (k := k + 1) (by omega)]
theorem get8 {α : Type} {a b c d e f g h : α} {l : List α} {q : Nat} : (a :: b :: c :: d :: e :: f :: g :: h :: l)[q + 8]? = l[q]? := rfl
theorem set8 {α : Type} {a b c d e f g h x : α} {l : List α} {q : Nat} : (a :: b :: c :: d :: e :: f :: g :: h :: l).set (q + 8) x = a :: b :: c :: d :: e :: f :: g :: h :: l.set q x := rfl
theorem wcs_wf {ws : List (List Nat)} {a b c d e f g h : Blk} {l : List Blk} : wfL (a :: b :: c :: d :: e :: f :: g :: h :: (wtl ws ++ l)) (wcs ws).flatten := by
 refine wfL_all fun x hx => ?_
 rw [vY] at hx
 obtain ⟨l, h1, h2⟩ := hx
 unfold wcs at h1
 rw [yI] at h1
 obtain ⟨v, hv, rfl⟩ := h1
 rw [yK] at hv
 rw [yZ] at h2
 subst h2
 simp only [wfV, liveP, get8, wtl_in hv]
theorem wcs_wf0 {ws : List (List Nat)} {a b c d e f g h : Blk} : wfL (a :: b :: c :: d :: e :: f :: g :: h :: wtl ws) (wcs ws).flatten := by
 have := wcs_wf (ws := ws) (a := a) (b := b) (c := c) (d := d) (e := e) (f := f) (g := g) (h := h) (l := [])
 rwa [yN] at this
theorem wcs_kill {ws : List (List Nat)} {M : List Nat} (h : ∀ k ∈ M, k < 8) : (wcs ws).map (kills M) = wcs ws := by
 unfold wcs
 rw [yL]
 refine vI fun j _ => ?_
 have : ¬ (j + 8) ∈ M := fun hm => by have := h _ hm; omega
 simp [kills, kill, this]
theorem wcs_kill7 {ws : List (List Nat)} : (wcs ws).map (kills [7]) = wcs ws := wcs_kill (by simp)
theorem wcs_gv {ws : List (List Nat)} {M : Nat → Bool} {h : List Blk} (hM : ∀ j, j < ws.length → M (j + 8) = false) : (wcs ws).map (gvL M h) = wcs ws := by
 unfold wcs
 rw [yL]
 refine vI fun j hj => ?_
 rw [yK] at hj
 simp [gvL, gvV, hM j hj]
theorem wcs_mv {ws : List (List Nat)} {i j : Nat} (h : j < 8 ∨ ws.length + 8 ≤ j) : (wcs ws).map (mvL i j) = wcs ws := by
 unfold wcs
 rw [yL]
 refine vI fun q hq => ?_
 rw [yK] at hq
 have : ¬ (q + 8 = j) := by omega
 simp [mvL, mvV, this]
theorem wcs_snoc {ws : List (List Nat)} {w : List Nat} : wcs (ws ++ [w]) = wcs ws ++ [[.sl (ws.length + 8) 0 w.length]] := by
 unfold wcs
 rw [yH, List.length_singleton, uI, yG]
 congr 1
 ·refine vI fun j hj => ?_
  rw [yK] at hj
  simp [yA, vD hj]
 ·simp
theorem wtl_snoc {ws : List (List Nat)} {w : List Nat} : wtl (ws ++ [w]) = wtl ws ++ [.arr 1 (rows w)] := by simp [wtl]
def envO (N : Nat) (f t left : Int) (m k : Nat) : Env := [(18, .i left), (17, .sl 5 0 k), (16, .sl 4 0 m), (13, .sl 3 0 N), (12, .ptr 1 0 0), (4, .ptr 0 0 0), (2, .i t), (1, .i f)]
def patO (N : Nat) (arcs : List Arc) (f t : Int) (rest : List Int) (ws : List (List Nat)) (ns : List Int) : St :=
 ⟨envO N f t (valTo arcs f rest arcs.length) ws.length ns.length, hp4 N arcs rest (begR arcs N) (.arv 1 (wcs ws) :: .arr 1 (ns.map encI) :: .dead :: .dead :: wtl ws), 0⟩
def patI (N : Nat) (arcs : List Arc) (f t : Int) (rest : List Int) (ws : List (List Nat)) (ns : List Int) (way : List Nat) (at_ : Int) : St :=
 ⟨(20, .ptr 6 0 0) :: (19, .sl 7 0 way.length) :: envO N f t (valTo arcs f rest arcs.length) ws.length ns.length, hp4 N arcs rest (begR arcs N) (.arv 1 (wcs ws) :: .arr 1 (ns.map encI) :: .var [.i at_] :: .arr 1 (rows way) :: wtl ws), 0⟩
theorem pos_first {arcs : List Arc} {rest : List Int} {v : Int} {i : Nat} (h : firstI arcs rest v = some i) : ∃ k, posI rest (fromN arcs v arcs.length) = some k ∧ ∃ hk : k < (fromN arcs v arcs.length).length, (fromN arcs v arcs.length)[k] = i := by
 have h1 : (fromN arcs v arcs.length).find? (fun i => decide (0 < rest.getD i 0)) = some i := by
  unfold fromN
  rw [List.find?_filter]
  rw [← h]
  unfold firstI
  congr 1
  funext i
  simp
 have h2 := List.find?_some h1
 cases hp : posI rest (fromN arcs v arcs.length) with
 | none =>
  unfold posI at hp
  rw [uG] at hp
  have := hp i (uS h1)
  rw [this] at h2; simp at h2
 | some k =>
  have hp2 := hp
  unfold posI at hp2
  rw [uF] at hp2
  obtain ⟨hk, g1, g2⟩ := hp2
  refine ⟨k, rfl, hk, ?_⟩
  have : (fromN arcs v arcs.length).find? (fun i => decide (0 < rest.getD i 0)) = some (fromN arcs v arcs.length)[k] := by
   rw [List.find?_eq_some_iff_getElem]
   exact ⟨g1, k, hk, rfl, fun j hj => by simpa using g2 j hj⟩
  rw [this] at h1
  simpa using h1
theorem rows_snoc {w : List Nat} {i : Nat} : rows (w ++ [i]) = rows w ++ [encN i] := by simp [rows]
theorem rows_drop {w : List Nat} {k : Nat} : (rows w).drop k = rows (w.drop k) := by simp [rows, List.map_drop]
theorem rows_take {w : List Nat} {k : Nat} (h : w.length ≤ k) : (rows w).take k = rows w := vC (by rw [rows_len]; exact h)
theorem body22c (N : Nat) (arcs : List Arc) (f t : Int) (rest : List Int) (ws : List (List Nat)) (ns : List Int) (hV : Val N arcs) (hF : Fv N arcs f t rest) (hv : 0 < valTo arcs f rest arcs.length) {RR : St → Prop} {X : Nat → St → Prop}
  (hX4 : ∀ way b y64 y65 y66, att arcs t (N + 1) rest [] f = (rest, some way) → X 4 ⟨(66, y66) :: (65, y65) :: (64, y64) :: (patI N arcs f t rest ws ns way t).e, (patI N arcs f t rest ws ns way t).h, b⟩)
  (way : List Nat) (at_ : Int) (hW : Wv N arcs f rest way at_) (ha : att arcs t (N + 1 - way.length) rest way at_ = att arcs t (N + 1) rest [] f)
  (hX3 : ∀ rest' e h b, att arcs t (N + 1) rest [] f = (rest', none) → leS [] ⟨e, h, b⟩ ⟨envO N f t (valTo arcs f rest arcs.length) ws.length ns.length, hp4 N arcs rest' (begR arcs N) (.arv 1 (wcs ws) :: .arr 1 (ns.map encI) :: .dead :: .dead :: wtl ws), 0⟩ → X 3 ⟨e, h, b⟩) :
  aw cx0 c76l2 (fun s' => ∃ g' : List Nat × Int, ((Wv N arcs f rest g'.1 g'.2 ∧ att arcs t (N + 1 - g'.1.length) rest g'.1 g'.2 = att arcs t (N + 1) rest [] f) ∧ N + 1 - g'.1.length < N + 1 - way.length) ∧ leG cx0.fx s' (patI N arcs f t rest ws ns g'.1 g'.2)) X RR (patI N arcs f t rest ws ns way at_) := by
 have hL := hV.hl
 have hN := hV.hn
 have hwl := hW.len hV
 obtain ⟨m, hm⟩ : ∃ m, N + 1 - way.length = m + 1 := ⟨N - way.length, by omega⟩
 generalize hA : att arcs t (N + 1) rest [] f = A at *
 rw [hm] at ha
 unfold att at ha
 unfold c76l2 patI envO hp4
 by_cases hat : at_ = t
 ·subst hat
  rw [if_pos rfl] at ha
  simp -implicitDefEqProofs only [rX,↓rY,↓reduceIte,Nat.reduceEqDiff,cxN,wtl_len,bne_self_eq_false]
  have := hX4 way (ws.length + 8) (.i at_) (.i at_) (.b false) ha.symm
  unfold patI envO hp4 at this
  exact this
 ·rw [if_neg hat] at ha
  have hne : (at_ != t) = true := by simpa using hat
  obtain ⟨i, hi⟩ := first_ex hF hv hW hat
  rw [hi] at ha
  simp only at ha
  obtain ⟨k, hk, hkl, hki⟩ := pos_first hi
  have hi2 := first_is hi
  have hW2 := hW.half hi
  have hat2 : at_.toNat < (begR arcs N).length := by rw [begR_len]; have := hW.rng; omega
  have hcast : ((at_.toNat : Nat) : Int) = at_ := by have := hW.rng; omega
  simp -implicitDefEqProofs only [rX,↓rY,↓reduceIte,Nat.reduceEqDiff,arrSz,cxN,wtl_len,hne,begR_len]
  refine ⟨hW.rng, by have := hW.rng; omega, ?_⟩
  simp -implicitDefEqProofs only [rX,↓rY,begR_get,hcast]
  have e46 := ok82a (fromN arcs at_ arcs.length) rest (fun j hj => by rw [hF.len]; exact fromN_lt hj) (by have := fromN_len (R := arcs) (v := at_) (k := arcs.length); omega)
  rw [hk] at e46
  refine call_isN [1, 2] [.bro 1 (rows (fromN arcs at_ arcs.length)), .clo 99 [.ptr 0 0 0]] (.i (k : Nat)) (.i (k : Nat)) _ _ (hp4 N arcs rest (begR arcs N) (.arv 1 (wcs ws) :: .arr 1 (ns.map encI) :: .var [.i at_] :: .arr 1 (rows way) :: wtl ws)) e46 ⟨by simp, by simp [cx0, hp4, wtl_len]; try omega⟩ rfl (by simp [lendsOk, lendOk, lends, lend, wkL, wk, wkB, wkR, pos]) (by simp [restH2]) (by simp [restH2, setAll, renB, rens, ren, back, hp4]) rfl trivial ?_
  unfold hp4
  simp -implicitDefEqProofs only [rX,↓rY,rZ,cells?,splice,↓reduceIte,Nat.reduceEqDiff,arrSz,Nat.reduceAdd,reduceCtorEq,freshP,litsP,killE,killB,kill,kills,St.kill,isD,isC,Nat.reduceLT,get8,set8,wtl_len,wtl_out0,wtl_set0,wcs_kill7,begR_len,begR_get,hcast,begR_kill,rows_len,rows_get,encN_0,hki]
  have hg := hW.rng
  refine ⟨hg, by omega, ⟨by omega, by omega⟩, hkl, by omega, hg, by omega, ⟨by omega, by omega⟩, hkl, ⟨by omega, by omega⟩, hi2.1, ?_⟩
  have hgi : gA arcs i = arcs[i]'hi2.1 := getD_nil (a := ⟨0,0,0,0⟩) hi2.1
  have hrow : yJ way.length (rows way) ++ [[V.v (.int .i64 (i : Int))]] = rows (way ++ [i]) := by
   rw [rows_take (yS _), rows_snoc]; rfl
  rw [hrow, ← hgi]
  have hlen : (way ++ [i]).length = way.length + 1 := by simp
  generalize hwi : way ++ [i] = w2 at *
  generalize hto : (gA arcs i).to = to2 at *
  have e2 := ok82b N w2 arcs to2 (fun j hj => (hW2.2.1 j hj).1) (by omega)
  have htk : yJ (way.length + 1) (rows w2) = rows w2 := rows_take (by omega)
  refine call_isN [0, 6] [.bro 1 (rows w2), .clo 100 [.ptr 0 0 0, .ptr 1 0 0]] (.i (zI (seenI arcs w2 to2))) (.i (zI (seenI arcs w2 to2))) _ _ (.var [.i N, .ro 4 (arcs.map Arc.enc)] :: .var [.sl 2 0 rest.length] :: .arr 1 (rest.map encI) :: .arv 1 (begR arcs N) :: .arv 1 (wcs ws) :: .arr 1 (ns.map encI) :: .var [.i to2] :: .arr 1 (rows w2) :: (wtl ws ++ [.arr 1 [[V.v (.int .i64 (i : Int))]], .dead])) e2 ⟨by simp, by simp [cx0, hp4, wtl_len]; try omega⟩ (by simp [atH, blk, renB, rens, ren]) (by simp [lendsOk, lendOk, lends, lend, wkL, wk, wkB, wkR, pos, blk, htk, rows_len, hlen]) (by simp [atH]) (by simp [atH, setAll, renB, rens, ren, back, wtl_kill, wcs_kill7, killB]) rfl trivial ?_
  cases hs : seenI arcs w2 to2 with
  | some k2 =>
   rw [hs] at ha
   simp only at ha
   obtain ⟨hk2, g1, _⟩ := seen_is hs
   have hd := isW_drop hW2.1 hk2
   rw [g1] at hd
   have hne2 : w2.drop k2 ≠ [] := by
    intro e
    have := congrArg vU e
    rw [vA, vB] at this
    omega
   have hnd : (w2.drop k2).Nodup := vP (vV _ _) (nodup_of_map hW2.2.2)
   have e49 := ok101 rest (w2.drop k2) hF.rng hne2 hnd (fun j hj => by rw [hF.len]; exact (hW2.2.1 j (vW hj)).1) (by have := hF.len; omega) (by simp; omega)
   have hge : decide ((0 : Int) ≤ (k2 : Int)) = true := by simp
   simp -implicitDefEqProofs only [rX,↓rY,ofConst,cells?,splice,↓reduceIte,Nat.reduceEqDiff,arrSz,Nat.reduceAdd,freshP,slcOk,isC,get8,set8,wtl_len,wtl_out,wtl_set,vH,zI,hge]
   refine ⟨by omega, ?_⟩
   have htk2 : yJ (way.length + 1 - k2) (vL k2 (rows w2)) = rows (w2.drop k2) := by
    rw [rows_drop]; exact rows_take (by simp; omega)
   refine call_isN [2] [.sl 0 0 rest.length, .bro 1 (rows (w2.drop k2))] (.i (tkN rest (w2.drop k2))) (.i (tkN rest (w2.drop k2))) _ _ (.var [.i N, .ro 4 (arcs.map Arc.enc)] :: .var [.sl 2 0 rest.length] :: .arr 1 ((tkR rest (w2.drop k2)).map encI) :: .arv 1 (begR arcs N) :: .arv 1 (wcs ws) :: .arr 1 (ns.map encI) :: .var [.i to2] :: .arr 1 (rows w2) :: (wtl ws ++ [.arr 1 [[V.v (.int .i64 (i : Int))]], .dead])) e49 ⟨by simp, by simp [cx0, hp4, wtl_len]; try omega⟩ rfl (by simp [lendsOk, lendOk, lends, lend, wkL, wk, wkB, wkR, pos, blk, htk2, rows_len, hlen]; omega) (by simp [takeH]) (by simp [takeH, setAll, renB, rens, ren, back]) rfl trivial ?_
   simp -implicitDefEqProofs only [rX,↓reduceIte,Nat.reduceEqDiff]
   refine hX3 _ _ _ _ ha.symm ?_
   unfold envO hp4
   simp -implicitDefEqProofs only [rX,↓reduceIte,Nat.reduceEqDiff,leE,leH,leB,leV,leVs,keepP,liveP,wfE,wfB,wfV,wfL,leVs,leV,tkR_len,eq_true begR_wf,eq_true leH_wtl,eq_true wcs_wf0,eq_true wtl_wf]
  | none =>
   rw [hs] at ha
   simp only at ha
   have hge : decide ((0 : Int) ≤ -1) = false := rfl
   simp -implicitDefEqProofs only [rX,↓rY,ofConst,cells?,splice,↓reduceIte,Nat.reduceEqDiff,arrSz,Nat.reduceAdd,freshP,slcOk,isC,get8,set8,wtl_len,wtl_out,wtl_set,vH,zI,hge]
   have hW3 : Wv N arcs f rest w2 to2 := ⟨hW2.1, hW2.2.1, hW2.2.2, seen_no hs, by rw [← hto]; exact (val_in hV hi2.1).2⟩
   have g1 : ∀ h, (wcs ws).map (gvL (fun k => k == 6) h) = wcs ws := fun h => wcs_gv (by intro j _; simp)
   have g2 : (wcs ws).map (mvL 6 (ws.length + 10)) = wcs ws := wcs_mv (.inr (by omega))
   have e1 : ((ws.length + 8 == 6) = true) = False := by simp
   have e2 : ((ws.length + 10 == 6) = true) = False := by simp
   have e3 : (ws.length + 8 = ws.length + 10) = False := by simp
   refine ⟨(w2, to2), ⟨⟨hW3, ?_⟩, ?_⟩, _, .give (fun k => k == 6) (by simp) (.mv 6 (ws.length + 10) (.var [.i to2]) (by omega) rfl (by simp only [St.give, gvH, gvH_hi (show 7 ≤ 0 + 1 + 1 + 1 + 1 + 1 + 1 + 1 + 1 by omega), yG, wtl_gv, yY, vO]; rw [show ws.length + 10 = (ws.length + 2) + 8 from rfl, get8, wtl_out]; rfl) (by simp [cx0, cxN]) (.refl _)), ?_⟩
   ·show att arcs t (N + 1 - w2.length) rest w2 to2 = A
    rw [← ha]; congr 1; omega
   ·show N + 1 - w2.length < N + 1 - way.length
    omega
   ·simp -implicitDefEqProofs only [rX,↓reduceIte,Nat.reduceEqDiff,Nat.reduceAdd,reduceCtorEq,leE,leH,leB,leV,leVs,keepP,liveP,wfE,wfB,wfV,wfL,set8,wtl_set,eq_true leH_wtl,eq_true wcs_wf0,eq_true wtl_wf,gvH_hi (k := 8) (by decide),wtl_gv,wtl_mv,g1,g2,e1,e2,e3,yG,leVs,leV,St.give,gvE,gvV,gvH,gvB,gvL,mvE,mvV,mvL,mvB,begR_gv,begR_mv,eq_true begR_wf,Nat.reduceBEq,hlen]
end Go.Fx.P.F
namespace Go.Fx.P.F
open Go Go.Fx Go.Proofs
set_option maxRecDepth 20000
def envO0 (N : Nat) (f t left : Int) (m k : Nat) : Env := [(18, .i left), (17, .sl 5 0 k), (16, .nil), (13, .sl 3 0 N), (12, .ptr 1 0 0), (4, .ptr 0 0 0), (2, .i t), (1, .i f)]
def patO0 (N : Nat) (arcs : List Arc) (f t : Int) (rest : List Int) (ws : List (List Nat)) (ns : List Int) : St :=
 ⟨envO0 N f t (valTo arcs f rest arcs.length) ws.length ns.length, hp4 N arcs rest (begR arcs N) (.dead :: .arr 1 (ns.map encI) :: .dead :: .dead :: wtl ws), 0⟩
def patI0 (N : Nat) (arcs : List Arc) (f t : Int) (rest : List Int) (ws : List (List Nat)) (ns : List Int) (way : List Nat) (at_ : Int) : St :=
 ⟨(20, .ptr 6 0 0) :: (19, .sl 7 0 way.length) :: envO0 N f t (valTo arcs f rest arcs.length) ws.length ns.length, hp4 N arcs rest (begR arcs N) (.dead :: .arr 1 (ns.map encI) :: .var [.i at_] :: .arr 1 (rows way) :: wtl ws), 0⟩
theorem body22c0 (N : Nat) (arcs : List Arc) (f t : Int) (rest : List Int) (ws : List (List Nat)) (ns : List Int) (hV : Val N arcs) (hF : Fv N arcs f t rest) (hv : 0 < valTo arcs f rest arcs.length) {RR : St → Prop} {X : Nat → St → Prop}
  (hX4 : ∀ way b y64 y65 y66, att arcs t (N + 1) rest [] f = (rest, some way) → X 4 ⟨(66, y66) :: (65, y65) :: (64, y64) :: (patI0 N arcs f t rest ws ns way t).e, (patI0 N arcs f t rest ws ns way t).h, b⟩)
  (way : List Nat) (at_ : Int) (hW : Wv N arcs f rest way at_) (ha : att arcs t (N + 1 - way.length) rest way at_ = att arcs t (N + 1) rest [] f)
  (hX3 : ∀ rest' e h b, att arcs t (N + 1) rest [] f = (rest', none) → leS [] ⟨e, h, b⟩ ⟨envO0 N f t (valTo arcs f rest arcs.length) ws.length ns.length, hp4 N arcs rest' (begR arcs N) (.dead :: .arr 1 (ns.map encI) :: .dead :: .dead :: wtl ws), 0⟩ → X 3 ⟨e, h, b⟩) :
  aw cx0 c76l2 (fun s' => ∃ g' : List Nat × Int, ((Wv N arcs f rest g'.1 g'.2 ∧ att arcs t (N + 1 - g'.1.length) rest g'.1 g'.2 = att arcs t (N + 1) rest [] f) ∧ N + 1 - g'.1.length < N + 1 - way.length) ∧ leG cx0.fx s' (patI0 N arcs f t rest ws ns g'.1 g'.2)) X RR (patI0 N arcs f t rest ws ns way at_) := by
 have hL := hV.hl
 have hN := hV.hn
 have hwl := hW.len hV
 obtain ⟨m, hm⟩ : ∃ m, N + 1 - way.length = m + 1 := ⟨N - way.length, by omega⟩
 generalize hA : att arcs t (N + 1) rest [] f = A at *
 rw [hm] at ha
 unfold att at ha
 unfold c76l2 patI0 envO0 hp4
 by_cases hat : at_ = t
 ·subst hat
  rw [if_pos rfl] at ha
  simp -implicitDefEqProofs only [rX,↓rY,↓reduceIte,Nat.reduceEqDiff,cxN,wtl_len,bne_self_eq_false]
  have := hX4 way (ws.length + 8) (.i at_) (.i at_) (.b false) ha.symm
  unfold patI0 envO0 hp4 at this
  exact this
 ·rw [if_neg hat] at ha
  have hne : (at_ != t) = true := by simpa using hat
  obtain ⟨i, hi⟩ := first_ex hF hv hW hat
  rw [hi] at ha
  simp only at ha
  obtain ⟨k, hk, hkl, hki⟩ := pos_first hi
  have hi2 := first_is hi
  have hW2 := hW.half hi
  have hat2 : at_.toNat < (begR arcs N).length := by rw [begR_len]; have := hW.rng; omega
  have hcast : ((at_.toNat : Nat) : Int) = at_ := by have := hW.rng; omega
  simp -implicitDefEqProofs only [rX,↓rY,↓reduceIte,Nat.reduceEqDiff,arrSz,cxN,wtl_len,hne,begR_len]
  refine ⟨hW.rng, by have := hW.rng; omega, ?_⟩
  simp -implicitDefEqProofs only [rX,↓rY,begR_get,hcast]
  have e46 := ok82a (fromN arcs at_ arcs.length) rest (fun j hj => by rw [hF.len]; exact fromN_lt hj) (by have := fromN_len (R := arcs) (v := at_) (k := arcs.length); omega)
  rw [hk] at e46
  refine call_isN [1, 2] [.bro 1 (rows (fromN arcs at_ arcs.length)), .clo 99 [.ptr 0 0 0]] (.i (k : Nat)) (.i (k : Nat)) _ _ (hp4 N arcs rest (begR arcs N) (.dead :: .arr 1 (ns.map encI) :: .var [.i at_] :: .arr 1 (rows way) :: wtl ws)) e46 ⟨by simp, by simp [cx0, hp4, wtl_len]; try omega⟩ rfl (by simp [lendsOk, lendOk, lends, lend, wkL, wk, wkB, wkR, pos]) (by simp [restH2]) (by simp [restH2, setAll, renB, rens, ren, back, hp4]) rfl trivial ?_
  unfold hp4
  simp -implicitDefEqProofs only [rX,↓rY,rZ,cells?,splice,↓reduceIte,Nat.reduceEqDiff,arrSz,Nat.reduceAdd,reduceCtorEq,freshP,litsP,killE,killB,kill,kills,St.kill,isD,isC,Nat.reduceLT,get8,set8,wtl_len,wtl_out0,wtl_set0,begR_len,begR_get,hcast,begR_kill,rows_len,rows_get,encN_0,hki]
  have hg := hW.rng
  refine ⟨hg, by omega, ⟨by omega, by omega⟩, hkl, by omega, hg, by omega, ⟨by omega, by omega⟩, hkl, ⟨by omega, by omega⟩, hi2.1, ?_⟩
  have hgi : gA arcs i = arcs[i]'hi2.1 := getD_nil (a := ⟨0,0,0,0⟩) hi2.1
  have hrow : yJ way.length (rows way) ++ [[V.v (.int .i64 (i : Int))]] = rows (way ++ [i]) := by
   rw [rows_take (yS _), rows_snoc]; rfl
  rw [hrow, ← hgi]
  have hlen : (way ++ [i]).length = way.length + 1 := by simp
  generalize hwi : way ++ [i] = w2 at *
  generalize hto : (gA arcs i).to = to2 at *
  have e2 := ok82b N w2 arcs to2 (fun j hj => (hW2.2.1 j hj).1) (by omega)
  have htk : yJ (way.length + 1) (rows w2) = rows w2 := rows_take (by omega)
  refine call_isN [0, 6] [.bro 1 (rows w2), .clo 100 [.ptr 0 0 0, .ptr 1 0 0]] (.i (zI (seenI arcs w2 to2))) (.i (zI (seenI arcs w2 to2))) _ _ (.var [.i N, .ro 4 (arcs.map Arc.enc)] :: .var [.sl 2 0 rest.length] :: .arr 1 (rest.map encI) :: .arv 1 (begR arcs N) :: .dead :: .arr 1 (ns.map encI) :: .var [.i to2] :: .arr 1 (rows w2) :: (wtl ws ++ [.arr 1 [[V.v (.int .i64 (i : Int))]], .dead])) e2 ⟨by simp, by simp [cx0, hp4, wtl_len]; try omega⟩ (by simp [atH, blk, renB, rens, ren]) (by simp [lendsOk, lendOk, lends, lend, wkL, wk, wkB, wkR, pos, blk, htk, rows_len, hlen]) (by simp [atH]) (by simp [atH, setAll, renB, rens, ren, back, wtl_kill, wcs_kill7, killB]) rfl trivial ?_
  cases hs : seenI arcs w2 to2 with
  | some k2 =>
   rw [hs] at ha
   simp only at ha
   obtain ⟨hk2, g1, _⟩ := seen_is hs
   have hd := isW_drop hW2.1 hk2
   rw [g1] at hd
   have hne2 : w2.drop k2 ≠ [] := by
    intro e
    have := congrArg vU e
    rw [vA, vB] at this
    omega
   have hnd : (w2.drop k2).Nodup := vP (vV _ _) (nodup_of_map hW2.2.2)
   have e49 := ok101 rest (w2.drop k2) hF.rng hne2 hnd (fun j hj => by rw [hF.len]; exact (hW2.2.1 j (vW hj)).1) (by have := hF.len; omega) (by simp; omega)
   have hge : decide ((0 : Int) ≤ (k2 : Int)) = true := by simp
   simp -implicitDefEqProofs only [rX,↓rY,ofConst,cells?,splice,↓reduceIte,Nat.reduceEqDiff,arrSz,Nat.reduceAdd,freshP,slcOk,isC,get8,set8,wtl_len,wtl_out,wtl_set,vH,zI,hge]
   refine ⟨by omega, ?_⟩
   have htk2 : yJ (way.length + 1 - k2) (vL k2 (rows w2)) = rows (w2.drop k2) := by
    rw [rows_drop]; exact rows_take (by simp; omega)
   refine call_isN [2] [.sl 0 0 rest.length, .bro 1 (rows (w2.drop k2))] (.i (tkN rest (w2.drop k2))) (.i (tkN rest (w2.drop k2))) _ _ (.var [.i N, .ro 4 (arcs.map Arc.enc)] :: .var [.sl 2 0 rest.length] :: .arr 1 ((tkR rest (w2.drop k2)).map encI) :: .arv 1 (begR arcs N) :: .dead :: .arr 1 (ns.map encI) :: .var [.i to2] :: .arr 1 (rows w2) :: (wtl ws ++ [.arr 1 [[V.v (.int .i64 (i : Int))]], .dead])) e49 ⟨by simp, by simp [cx0, hp4, wtl_len]; try omega⟩ rfl (by simp [lendsOk, lendOk, lends, lend, wkL, wk, wkB, wkR, pos, blk, htk2, rows_len, hlen]; omega) (by simp [takeH]) (by simp [takeH, setAll, renB, rens, ren, back]) rfl trivial ?_
   simp -implicitDefEqProofs only [rX,↓reduceIte,Nat.reduceEqDiff]
   refine hX3 _ _ _ _ ha.symm ?_
   unfold envO0 hp4
   simp -implicitDefEqProofs only [rX,↓reduceIte,Nat.reduceEqDiff,leE,leH,leB,leV,leVs,keepP,liveP,wfE,wfB,wfV,wfL,leVs,leV,tkR_len,eq_true begR_wf,eq_true leH_wtl,eq_true wcs_wf0,eq_true wtl_wf]
  | none =>
   rw [hs] at ha
   simp only at ha
   have hge : decide ((0 : Int) ≤ -1) = false := rfl
   simp -implicitDefEqProofs only [rX,↓rY,ofConst,cells?,splice,↓reduceIte,Nat.reduceEqDiff,arrSz,Nat.reduceAdd,freshP,slcOk,isC,get8,set8,wtl_len,wtl_out,wtl_set,vH,zI,hge]
   have hW3 : Wv N arcs f rest w2 to2 := ⟨hW2.1, hW2.2.1, hW2.2.2, seen_no hs, by rw [← hto]; exact (val_in hV hi2.1).2⟩
   have g1 : ∀ h, (wcs ws).map (gvL (fun k => k == 6) h) = wcs ws := fun h => wcs_gv (by intro j _; simp)
   have g2 : (wcs ws).map (mvL 6 (ws.length + 10)) = wcs ws := wcs_mv (.inr (by omega))
   have e1 : ((ws.length + 8 == 6) = true) = False := by simp
   have e2 : ((ws.length + 10 == 6) = true) = False := by simp
   have e3 : (ws.length + 8 = ws.length + 10) = False := by simp
   refine ⟨(w2, to2), ⟨⟨hW3, ?_⟩, ?_⟩, _, .give (fun k => k == 6) (by simp) (.mv 6 (ws.length + 10) (.var [.i to2]) (by omega) rfl (by simp only [St.give, gvH, gvH_hi (show 7 ≤ 0 + 1 + 1 + 1 + 1 + 1 + 1 + 1 + 1 by omega), yG, wtl_gv, yY, vO]; rw [show ws.length + 10 = (ws.length + 2) + 8 from rfl, get8, wtl_out]; rfl) (by simp [cx0, cxN]) (.refl _)), ?_⟩
   ·show att arcs t (N + 1 - w2.length) rest w2 to2 = A
    rw [← ha]; congr 1; omega
   ·show N + 1 - w2.length < N + 1 - way.length
    omega
   ·simp -implicitDefEqProofs only [rX,↓reduceIte,Nat.reduceEqDiff,Nat.reduceAdd,reduceCtorEq,leE,leH,leB,leV,leVs,keepP,liveP,wfE,wfB,wfV,wfL,set8,wtl_set,eq_true leH_wtl,eq_true wcs_wf0,eq_true wtl_wf,gvH_hi (k := 8) (by decide),wtl_gv,wtl_mv,e1,e2,e3,yG,leVs,leV,St.give,gvE,gvV,gvH,gvB,gvL,mvE,mvV,mvL,mvB,begR_gv,begR_mv,eq_true begR_wf,Nat.reduceBEq,hlen]
end Go.Fx.P.F
namespace Go.Fx.P.F
open Go Go.Fx Go.Proofs
set_option maxRecDepth 20000
theorem wcs_kill4 {ws : List (List Nat)} : (wcs ws).map (kills [4]) = wcs ws := wcs_kill (by simp)
theorem wcs_kill5 {ws : List (List Nat)} : (wcs ws).map (kills [5]) = wcs ws := wcs_kill (by simp)
theorem leH_wtl2 {ws : List (List Nat)} {l m : List Blk} (h : leH l m) : leH (wtl ws ++ l) (wtl ws ++ m) := by
 induction ws with
 | nil => exact h
 | cons w r ih => exact ⟨rfl, ih⟩
theorem wfB_wtl2 {ws : List (List Nat)} {q l : List Blk} (h : wfB q l) : wfB q (wtl ws ++ l) := by
 induction ws with
 | nil => exact h
 | cons w r ih => exact ih
theorem wcs_wf7 {ws : List (List Nat)} {a b c d e f g : Blk} {els : List (List V)} {n : Nat} {l : List Blk} : wfL (a :: b :: c :: d :: e :: f :: g :: .arr 1 els :: (wtl ws ++ l)) (wcs ws ++ [[V.sl 7 0 n]]).flatten := by
 refine wfL_all fun x hx => ?_
 rw [List.flatten_append, uB] at hx
 rcases hx with hx | hx
 ·have : wfL (a :: b :: c :: d :: e :: f :: g :: .arr 1 els :: (wtl ws ++ l)) (wcs ws).flatten := wcs_wf
  exact wfL_mem this hx
 ·simp only [List.flatten_cons, List.flatten_nil, yN, yZ] at hx
  subst hx
  trivial
theorem litvP_c {sz i : Nat} {acc : List (List V)} {x : V} {r : List (Nat × V)} {K : List (List V) → Prop} : litvP sz acc ((i, x) :: r) K = optK (cells? x) fun cs => ((cs.length = sz ∧ i < acc.length) ∧ cs.all isC = true) ∧ litvP sz (acc.set i cs) r K := rfl
theorem litvP_n {sz : Nat} {acc : List (List V)} {K : List (List V) → Prop} : litvP sz acc [] K = K acc := rfl
theorem viewVK_s {h : List Blk} {k i n : Nat} {K : Nat → List (List V) → Prop} : viewVK h (.sl k i n) K = viewVB (blk h k) i n K := rfl
theorem viewVB_w {sz i n : Nat} {els : List (List V)} {K : Nat → List (List V) → Prop} : viewVB (.arv sz els) i n K = (i + n ≤ els.length ∧ K sz ((els.drop i).take n)) := rfl
theorem appVP_s {fx bn : List Nat} {id sz bytes k i n : Nat} {s : St} {new : List (List V)} {K : V → St → Prop} : appVP fx bn id sz bytes s (.sl k i n) new K = appVB fx bn k i n sz bytes s new (blk s.h k) K := rfl
theorem appVB_w {fx bn : List Nat} {k i n sz sz' bytes : Nat} {e : Env} {h : List Blk} {b : Nat} {new els : List (List V)} {K : V → St → Prop} : appVB fx bn k i n sz bytes ⟨e, h, b⟩ new (.arv sz' els) K =
  ((sz' = sz ∧ i + n ≤ els.length ∧ (n + new.length) * bytes ≤ 140737488355328) ∧ (k ∉ fx ∧ k ∉ bn) ∧ K (.sl k 0 (n + new.length)) ⟨killE [k] e, (h.map (killB [k])).set k (.arv sz (((els.drop i).take n ++ new).map (kills [k]))), b⟩) := rfl
structure InP (N : Nat) (arcs : List Arc) (f t : Int) (wsT : List (List Nat)) (nsT : List Int) (rest : List Int) (ws : List (List Nat)) (ns : List Int) : Prop where
 fv : Fv N arcs f t rest
 run : ∃ ws' ns', PR N arcs f t rest ws' ns' ∧ wsT = ws ++ ws' ∧ nsT = ns ++ ns'
 len : ws.length + cnt rest arcs.length ≤ arcs.length ∧ ns.length = ws.length
theorem val_in2 {N : Nat} {arcs : List Arc} {f t : Int} {rest : List Int} (hF : Fv N arcs f t rest) : -((arcs.length : Int) * 1073741824) ≤ valTo arcs f rest arcs.length ∧ valTo arcs f rest arcs.length ≤ (arcs.length : Int) * 1073741824 := by
 refine valTo_bound arcs f rest (fun x hx => ?_) _
 obtain ⟨i, hi, rfl⟩ := yT hx
 have := hF.rng i
 rw [yA, yD hi] at this
 exact this
def patX (N : Nat) (arcs : List Arc) (f t : Int) (rest : List Int) (ws : List (List Nat)) (ns : List Int) : St := if ws = [] then patO0 N arcs f t rest ws ns else patO N arcs f t rest ws ns
theorem body22b (N : Nat) (arcs : List Arc) (f t : Int) (wsT : List (List Nat)) (nsT : List Int) (hV : Val N arcs) (hf : 0 ≤ f ∧ f < N) (hft : f ≠ t) {RR : St → Prop} {X : Nat → St → Prop}
  (hX : ∀ rest b y z, wsT ≠ [] → X 2 ⟨(62, y) :: (61, z) :: (patO N arcs f t rest wsT nsT).e, (patO N arcs f t rest wsT nsT).h, b⟩)
  (g : List Int × List (List Nat) × List Int) (hI : InP N arcs f t wsT nsT g.1 g.2.1 g.2.2) (hw : g.2.1 ≠ []) :
  aw cx0 c76l1 (fun s' => ∃ g' : List Int × List (List Nat) × List Int, (InP N arcs f t wsT nsT g'.1 g'.2.1 g'.2.2 ∧ cnt g'.1 arcs.length < cnt g.1 arcs.length) ∧ leG cx0.fx s' (patX N arcs f t g'.1 g'.2.1 g'.2.2)) X RR (patO N arcs f t g.1 g.2.1 g.2.2) := by
 obtain ⟨rest, ws, ns⟩ := g
 obtain ⟨hF, ⟨ws', ns', hR, hws, hns⟩, hln⟩ := hI
 simp only at hF hR hws hns hln hw
 have hL := hV.hl
 have hN := hV.hn
 unfold c76l1 patO envO hp4
 by_cases hv : 0 < valTo arcs f rest arcs.length
 ·have hvt : decide (0 < valTo arcs f rest arcs.length) = true := decide_eq_true hv
  simp -implicitDefEqProofs only [rX,↓rY,ofConst,cells?,splice,↓reduceIte,Nat.reduceEqDiff,freshP,isC,cxN,get8,set8,wtl_len,wtl_out0,wtl_set0,hvt]
  refine loopP_back (fun g : List Nat × Int => patI N arcs f t rest ws ns g.1 g.2) (fun g => Wv N arcs f rest g.1 g.2 ∧ att arcs t (N + 1 - g.1.length) rest g.1 g.2 = att arcs t (N + 1) rest [] f) (fun g => N + 1 - g.1.length) ([], f) ⟨Wv.begin hf rest, rfl⟩ ?_ (fun g hg => body22c N arcs f t rest ws ns hV hF hv ?_ g.1 g.2 hg.1 hg.2 ?_)
  ·refine ⟨_, .mv 6 (ws.length + 8) (.var [.i f]) (by omega) rfl (by rw [get8, wtl_out0]; rfl) (by simp [cx0, cxN]) (.virtAt 7 1 (by decide) rfl (.nilE 19 7 rfl (.refl _))), ?_⟩
   have g2 : (wcs ws).map (mvL 6 (ws.length + 8)) = wcs ws := wcs_mv (.inr (by omega))
   unfold patI envO hp4
   simp -implicitDefEqProofs only [rX,↓reduceIte,Nat.reduceEqDiff,reduceCtorEq,leE,leH,leB,leV,leVs,keepP,liveP,wfE,wfB,wfV,wfL,set8,wtl_set0,leVs,leV,eq_true begR_wf,rows,mvE,mvV,mvL,mvB,begR_mv,g2,wtl_mv,yG,eq_true leH_wtl,eq_true wcs_wf0,eq_true wtl_wf]
  ·intro way b y64 y65 y66 ha
   have hw := att_ok hV hft hF hv (N + 1) [] f (Wv.begin hf rest) (by simp)
   rw [ha] at hw
   obtain ⟨h2, h3, h4, h5⟩ : way ≠ [] ∧ isW arcs f way t ∧ way.Nodup ∧ ∀ j ∈ way, j < arcs.length ∧ 0 < rest.getD j 0 := by
    rcases hw with ⟨w, h1, h2, h3, h4, h5⟩ | ⟨rest', h1, _⟩
    ·simp only [yV, vQ, true_and] at h1
     subst h1
     exact ⟨h2, h3, h4, h5⟩
    ·simp at h1
   have hto := take_ok hF h3 h2 h4 h5
   have hFv := take_Fv hF h3 h2 h4 h5 (.inr ⟨rfl, rfl⟩)
   obtain ⟨ws2, ns2, rfl, rfl, hR2⟩ := hR.way hv ha
   have hwl : way.length ≤ arcs.length := by
    have := nodup_le (l := way.map Int.ofNat) arcs.length (by
     rw [yX, vT]
     exact uJ (fun h e => h (uK e)) (yX.1 h4)) (by
     intro v hv
     rw [yI] at hv
     obtain ⟨i, hi, rfl⟩ := hv
     have := (h5 i hi).1
     simp only [uL]; omega)
    simpa using this
   unfold patI envO hp4
   simp only [↓reduceIte]
   simp -implicitDefEqProofs only [rX,↓rY,rdK,cells?,↓reduceIte,Nat.reduceEqDiff,reduceCtorEq,freshP,killE,killB,kill,kills,St.kill,isC,Nat.reduceLT,get8,set8,wtl_len,wtl_out0,wtl_set0,wcs_len,wtl_kill,wcs_kill4,litvP_c,litvP_n,↓viewVK_s,↓viewVB_w,↓appVP_s,↓appVB_w,List.zip_cons_cons,List.zip_nil_left,begR_kill,yG]
   have htw : yJ way.length (rows way) = rows way := rows_take (yS _)
   have htws : yJ ws.length (wcs ws) = wcs ws := vC (by rw [wcs_len]; exact yS _)
   rw [htws, wcs_kill4]
   have hcl : 0 < arcs.length := by
    have := h5
    cases way with
    | nil => exact absurd rfl h2
    | cons i w => have := (h5 i yB).1; omega
   refine ⟨by simp, by omega, ?_⟩
   have e49 := ok101 rest way hF.rng h2 h4 (fun j hj => by rw [hF.len]; exact (h5 j hj).1) (by have := hF.len; omega) (by omega)
   refine call_isN [2] [.sl 0 0 rest.length, .bro 1 (rows way)] (.i (tkN rest way)) (.i (tkN rest way)) _ _ (.var [.i N, .ro 4 (arcs.map Arc.enc)] :: .var [.sl 2 0 rest.length] :: .arr 1 ((tkR rest way).map encI) :: .arv 1 (begR arcs N) :: .arv 1 (wcs ws ++ [[.sl 7 0 way.length]]) :: .arr 1 (ns.map encI) :: .var [.i t] :: .arr 1 (rows way) :: (wtl ws ++ [.arv 1 [[.sl 7 0 way.length]], .dead, .dead, .dead])) e49 ⟨by simp, by simp [cx0]⟩ rfl (by simp [lendsOk, lendOk, lends, lend, wkL, wk, wkB, wkR, pos, blk, htw, rows_len]) (by simp [takeH]) (by simp [takeH, setAll, renB, rens, ren, back]) rfl trivial ?_
   simp -implicitDefEqProofs only [rX,↓rY,ofConst,cells?,↓reduceIte,Nat.reduceEqDiff,arrSz,Nat.reduceAdd,reduceCtorEq,freshP,litsP,killE,killB,kill,kills,St.kill,isD,Nat.reduceLT,get8,set8,wtl_len,wtl_out,wtl_set,begR_kill]
   have hvb := val_in2 hF
   have hvb2 := val_in2 hFv
   have hval := hto.2.2.2.2 f
   rw [if_pos rfl, if_neg (fun e => hft e.symm)] at hval
   have e0 : yJ ns.length (ns.map encI) ++ [[V.v (.int .i64 (tkN rest way))]] = (ns ++ [tkN rest way]).map encI := by
    rw [vC (by simp), yG]; rfl
   have hc : (((ns.length + 1 : Nat) : Int) - 1).toNat = ns.length := by omega
   have hg : ∀ h : ns.length < ((ns ++ [tkN rest way]).map encI).length, ((ns ++ [tkN rest way]).map encI)[ns.length] = encI (tkN rest way) := by
    intro h; simp
   refine ⟨by omega, fun _ => ⟨⟨by simp only [lo]; omega, by simp only [hi]; omega⟩, ⟨by omega, by omega⟩, by simp, ?_⟩⟩
   simp only [e0, hc, hg]
   simp -implicitDefEqProofs only [rX,↓rY,rZ]
   refine ⟨⟨by simp only [lo]; omega, by simp only [hi]; omega⟩, (tkR rest way, ws ++ [way], ns ++ [tkN rest way]), ⟨⟨hFv, ⟨ws2, ns2, hR2, by rw [hws]; simp, by rw [hns]; simp⟩, ?_⟩, hto.2.2.2.1⟩, _, .le (p := ⟨[(18, .i (valTo arcs f (tkR rest way) arcs.length)), (17, .sl 5 0 (ns.length + 1)), (16, .sl 4 0 (ws.length + 1)), (13, .sl 3 0 N), (12, .ptr 1 0 0), (4, .ptr 0 0 0), (2, .i t), (1, .i f)], hp4 N arcs (tkR rest way) (begR arcs N) (.arv 1 (wcs ws ++ [[.sl 7 0 way.length]]) :: .arr 1 ((ns ++ [tkN rest way]).map encI) :: .dead :: .arr 1 (rows way) :: (wtl ws ++ [.dead])), 0⟩) ?_ (.mv (ws.length + 8) 7 (.arr 1 (rows way)) (by omega) (by simp only [hp4]; rw [get8, wtl_out0]; rfl) rfl (by simp [cx0, cxN]) (.refl _)), ?_⟩
   rotate_left
   ·unfold hp4
    simp -implicitDefEqProofs only [rX,↓reduceIte,Nat.reduceEqDiff,leE,leH,leB,leV,leVs,keepP,liveP,wfE,wfB,wfV,wfL,killB,kill,kills,St.kill,wtl_kill,leVs,leV,hval,tkR_len,yG,wcs_kill5,kills,kill,uM,eq_true begR_wf,eq_true wcs_wf7]
    refine ⟨leH_wtl2 (by simp [leH, leB]), wfB_wtl2 trivial⟩
   ·have g2 : (wcs ws).map (mvL (ws.length + 8) 7) = wcs ws := wcs_mv (.inl (by omega))
    have ex : (ws ++ [way] = []) = False := by simp
    simp only [patX, ex, if_false]
    unfold patO envO hp4
    simp -implicitDefEqProofs only [rX,↓reduceIte,Nat.reduceEqDiff,reduceCtorEq,leE,leH,leB,leV,leVs,keepP,liveP,wfE,wfB,wfV,wfL,set8,wtl_set0,leVs,leV,mvE,mvV,mvL,mvB,begR_mv,g2,wtl_mv,yG,wcs_snoc,wtl_snoc]
    rw [← wtl_snoc, ← wcs_snoc]
    exact ⟨leH_wtl0, begR_wf, wcs_wf0, wtl_wf⟩
   have := hto.2.2.2.1
   show (ws ++ [way]).length + cnt (tkR rest way) arcs.length ≤ arcs.length ∧ (ns ++ [tkN rest way]).length = (ws ++ [way]).length
   simp; omega
  ·intro rest' e h b ha hle
   simp only [↓reduceIte]
   have hw := att_ok hV hft hF hv (N + 1) [] f (Wv.begin hf rest) (by simp)
   rw [ha] at hw
   rcases hw with ⟨w, h1, _⟩ | ⟨rest2, h1, h2, h3, h4⟩
   ·simp at h1
   simp only [yV, and_true] at h1
   subst h1
   refine ⟨(rest', ws, ns), ⟨⟨h2, ⟨ws', ns', hR.circ hv ha (by rw [h3]; exact hv), hws, hns⟩, ?_⟩, h4⟩, ?_⟩
   ·show ws.length + cnt rest' arcs.length ≤ arcs.length ∧ ns.length = ws.length
    omega
   ·rw [← h3] at hle
    refine ⟨_, .refl _, ?_⟩
    simp only [patX, if_neg hw]
    exact hle
 ·have hvf : decide (0 < valTo arcs f rest arcs.length) = false := decide_eq_false hv
  simp -implicitDefEqProofs only [rX,↓rY,ofConst,cells?,splice,↓reduceIte,Nat.reduceEqDiff,freshP,isC,cxN,get8,set8,wtl_len,wtl_out0,wtl_set0,hvf]
  cases hR with
  | step h _ _ => exact absurd h hv
  | stop h =>
   rw [yN] at hws hns
   subst hws hns
   exact hX rest _ _ _ hw
end Go.Fx.P.F
namespace Go.Fx.P.F
open Go Go.Fx Go.Proofs
set_option maxRecDepth 20000
theorem appVP_n {fx bn : List Nat} {id sz bytes : Nat} {e : Env} {h : List Blk} {b : Nat} {new : List (List V)} {K : V → St → Prop} : appVP fx bn id sz bytes ⟨e, h, b⟩ .nil new K = (new.length * bytes ≤ 140737488355328 ∧ freshP h id ∧ K (.sl id 0 new.length) ⟨e, h.set id (.arv sz new), b⟩) := rfl
theorem body22b0 (N : Nat) (arcs : List Arc) (f t : Int) (wsT : List (List Nat)) (nsT : List Int) (hV : Val N arcs) (hf : 0 ≤ f ∧ f < N) (hft : f ≠ t) {RR : St → Prop} {X : Nat → St → Prop}
  (hX : ∀ rest b y z, wsT = [] → X 2 ⟨(62, y) :: (61, z) :: (patO0 N arcs f t rest wsT nsT).e, (patO0 N arcs f t rest wsT nsT).h, b⟩)
  (rest : List Int) (ws : List (List Nat)) (ns : List Int) (hw0 : ws = []) (hI : InP N arcs f t wsT nsT rest ws ns) :
  aw cx0 c76l1 (fun s' => ∃ g' : List Int × List (List Nat) × List Int, (InP N arcs f t wsT nsT g'.1 g'.2.1 g'.2.2 ∧ cnt g'.1 arcs.length < cnt rest arcs.length) ∧ leG cx0.fx s' (patX N arcs f t g'.1 g'.2.1 g'.2.2)) X RR (patO0 N arcs f t rest ws ns) := by
 obtain ⟨hF, ⟨ws', ns', hR, hws, hns⟩, hln⟩ := hI
 have hL := hV.hl
 have hN := hV.hn
 unfold c76l1 patO0 envO0 hp4
 by_cases hv : 0 < valTo arcs f rest arcs.length
 ·have hvt : decide (0 < valTo arcs f rest arcs.length) = true := decide_eq_true hv
  simp -implicitDefEqProofs only [rX,↓rY,ofConst,cells?,splice,↓reduceIte,Nat.reduceEqDiff,freshP,isC,cxN,get8,set8,wtl_len,wtl_out0,wtl_set0,hvt]
  refine loopP_back (fun g : List Nat × Int => patI0 N arcs f t rest ws ns g.1 g.2) (fun g => Wv N arcs f rest g.1 g.2 ∧ att arcs t (N + 1 - g.1.length) rest g.1 g.2 = att arcs t (N + 1) rest [] f) (fun g => N + 1 - g.1.length) ([], f) ⟨Wv.begin hf rest, rfl⟩ ?_ (fun g hg => body22c0 N arcs f t rest ws ns hV hF hv ?_ g.1 g.2 hg.1 hg.2 ?_)
  ·refine ⟨_, .mv 6 (ws.length + 8) (.var [.i f]) (by omega) rfl (by rw [get8, wtl_out0]; rfl) (by simp [cx0, cxN]) (.virtAt 7 1 (by decide) rfl (.nilE 19 7 rfl (.refl _))), ?_⟩
   have g2 : (wcs ws).map (mvL 6 (ws.length + 8)) = wcs ws := wcs_mv (.inr (by omega))
   unfold patI0 envO0 hp4
   simp -implicitDefEqProofs only [rX,↓reduceIte,Nat.reduceEqDiff,reduceCtorEq,leE,leH,leB,leV,leVs,keepP,liveP,wfE,wfB,wfV,wfL,set8,wtl_set0,leVs,leV,eq_true begR_wf,rows,mvE,mvV,mvL,mvB,begR_mv,wtl_mv,yG,eq_true leH_wtl,eq_true wcs_wf0,eq_true wtl_wf]
  ·intro way b y64 y65 y66 ha
   have hw := att_ok hV hft hF hv (N + 1) [] f (Wv.begin hf rest) (by simp)
   rw [ha] at hw
   obtain ⟨h2, h3, h4, h5⟩ : way ≠ [] ∧ isW arcs f way t ∧ way.Nodup ∧ ∀ j ∈ way, j < arcs.length ∧ 0 < rest.getD j 0 := by
    rcases hw with ⟨w, h1, h2, h3, h4, h5⟩ | ⟨rest', h1, _⟩
    ·simp only [yV, vQ, true_and] at h1
     subst h1
     exact ⟨h2, h3, h4, h5⟩
    ·simp at h1
   have hto := take_ok hF h3 h2 h4 h5
   have hFv := take_Fv hF h3 h2 h4 h5 (.inr ⟨rfl, rfl⟩)
   obtain ⟨ws2, ns2, rfl, rfl, hR2⟩ := hR.way hv ha
   have hwl : way.length ≤ arcs.length := by
    have := nodup_le (l := way.map Int.ofNat) arcs.length (by
     rw [yX, vT]
     exact uJ (fun h e => h (uK e)) (yX.1 h4)) (by
     intro v hv
     rw [yI] at hv
     obtain ⟨i, hi, rfl⟩ := hv
     have := (h5 i hi).1
     simp only [uL]; omega)
    simpa using this
   unfold patI0 envO0 hp4
   simp only [↓reduceIte]
   simp -implicitDefEqProofs only [rX,↓rY,rdK,cells?,↓reduceIte,Nat.reduceEqDiff,freshP,isC,Nat.reduceLT,get8,set8,wtl_len,wtl_out,wtl_out0,wtl_set,wtl_set0,litvP_c,litvP_n,↓viewVK_s,↓viewVB_w,↓appVP_n,List.zip_cons_cons,List.zip_nil_left]
   have htw : yJ way.length (rows way) = rows way := rows_take (yS _)
   have hcl : 0 < arcs.length := by
    have := h5
    cases way with
    | nil => exact absurd rfl h2
    | cons i w => have := (h5 i yB).1; omega
   refine ⟨by simp, by omega, ?_⟩
   have e49 := ok101 rest way hF.rng h2 h4 (fun j hj => by rw [hF.len]; exact (h5 j hj).1) (by have := hF.len; omega) (by omega)
   refine call_isN [2] [.sl 0 0 rest.length, .bro 1 (rows way)] (.i (tkN rest way)) (.i (tkN rest way)) _ _ (.var [.i N, .ro 4 (arcs.map Arc.enc)] :: .var [.sl 2 0 rest.length] :: .arr 1 ((tkR rest way).map encI) :: .arv 1 (begR arcs N) :: .dead :: .arr 1 (ns.map encI) :: .var [.i t] :: .arr 1 (rows way) :: (wtl ws ++ [.arv 1 [[.sl 7 0 way.length]], .arv 1 [[.sl 7 0 way.length]], .dead, .dead])) e49 ⟨by simp, by simp [cx0]⟩ rfl (by simp [lendsOk, lendOk, lends, lend, wkL, wk, wkB, wkR, pos, blk, htw, rows_len]) (by simp [takeH]) (by simp [takeH, setAll, renB, rens, ren, back]) rfl trivial ?_
   simp -implicitDefEqProofs only [rX,↓rY,ofConst,cells?,↓reduceIte,Nat.reduceEqDiff,arrSz,Nat.reduceAdd,reduceCtorEq,freshP,litsP,killE,killB,kill,kills,St.kill,isD,Nat.reduceLT,get8,set8,wtl_len,wtl_out,wtl_set,begR_kill]
   have hvb := val_in2 hF
   have hvb2 := val_in2 hFv
   have hval := hto.2.2.2.2 f
   rw [if_pos rfl, if_neg (fun e => hft e.symm)] at hval
   have e0 : yJ ns.length (ns.map encI) ++ [[V.v (.int .i64 (tkN rest way))]] = (ns ++ [tkN rest way]).map encI := by
    rw [vC (by simp), yG]; rfl
   have hc : (((ns.length + 1 : Nat) : Int) - 1).toNat = ns.length := by omega
   have hg : ∀ h : ns.length < ((ns ++ [tkN rest way]).map encI).length, ((ns ++ [tkN rest way]).map encI)[ns.length] = encI (tkN rest way) := by
    intro h; simp
   refine ⟨by omega, fun _ => ⟨⟨by simp only [lo]; omega, by simp only [hi]; omega⟩, ⟨by omega, by omega⟩, by simp, ?_⟩⟩
   simp only [e0, hc, hg]
   simp -implicitDefEqProofs only [rX,↓rY,rZ]
   refine ⟨⟨by simp only [lo]; omega, by simp only [hi]; omega⟩, (tkR rest way, ws ++ [way], ns ++ [tkN rest way]), ⟨⟨hFv, ⟨ws2, ns2, hR2, by rw [hws]; simp, by rw [hns]; simp⟩, ?_⟩, hto.2.2.2.1⟩, _, .le (p := ⟨[(18, .i (valTo arcs f (tkR rest way) arcs.length)), (17, .sl 5 0 (ns.length + 1)), (16, .sl (ws.length + 9) 0 1), (13, .sl 3 0 N), (12, .ptr 1 0 0), (4, .ptr 0 0 0), (2, .i t), (1, .i f)], hp4 N arcs (tkR rest way) (begR arcs N) (.dead :: .arr 1 ((ns ++ [tkN rest way]).map encI) :: .dead :: .arr 1 (rows way) :: (wtl ws ++ [.dead, .arv 1 [[.sl 7 0 way.length]]])), 0⟩) ?_ (.mv 4 (ws.length + 9) (.arv 1 [[.sl 7 0 way.length]]) (by omega) rfl (by simp only [hp4]; rw [show ws.length + 9 = (ws.length + 1) + 8 from rfl, get8, wtl_out]; rfl) (by simp [cx0, cxN]) (.mv (ws.length + 8) 7 (.arr 1 (rows way)) (by omega) ?_ ?_ (by simp [cx0, cxN]) (.refl _))), ?_⟩
   rotate_left
   ·unfold hp4
    simp -implicitDefEqProofs only [rX,↓reduceIte,Nat.reduceEqDiff,leE,leH,leB,leV,leVs,keepP,liveP,wfE,wfB,wfV,wfL,killB,kill,kills,St.kill,get8,wtl_out,wtl_kill,leVs,leV,hval,tkR_len,yG,kills,kill,uM,eq_true begR_wf]
    exact ⟨leH_wtl2 (by simp [leH, leB]), wfB_wtl2 (by simp [wfB, wfL, wfV, liveP])⟩
   ·subst hw0; rfl
   ·subst hw0; rfl
   ·subst hw0
    have e : (([] ++ [way] : List (List Nat)) = []) = False := by simp
    have ew : wcs ([] ++ [way]) = [[.sl 8 0 way.length]] := by simp [wcs]
    have et : wtl ([] ++ [way]) = [.arr 1 (rows way)] := by simp [wtl]
    have e9 : wtl [] = [] := rfl
    unfold patX patO envO hp4
    simp -implicitDefEqProofs only [rX,↓reduceIte,Nat.reduceEqDiff,reduceCtorEq,leE,leH,leB,leV,leVs,keepP,liveP,wfE,wfB,wfV,wfL,leVs,leV,mvE,mvV,mvL,mvB,begR_mv,yG,e9,eq_true begR_wf]
    have ew' : wcs [way] = [[.sl 8 0 way.length]] := by simp [wcs]
    have et' : wtl [way] = [.arr 1 (rows way)] := by simp [wtl]
    exact ⟨⟨by rw [ew'], by rw [et']; simp [leH, leB]⟩, wcs_wf0, wtl_wf⟩
   have := hto.2.2.2.1
   show (ws ++ [way]).length + cnt (tkR rest way) arcs.length ≤ arcs.length ∧ (ns ++ [tkN rest way]).length = (ws ++ [way]).length
   simp; omega
  ·intro rest' e h b ha hle
   simp only [↓reduceIte]
   have hw := att_ok hV hft hF hv (N + 1) [] f (Wv.begin hf rest) (by simp)
   rw [ha] at hw
   rcases hw with ⟨w, h1, _⟩ | ⟨rest2, h1, h2, h3, h4⟩
   ·simp at h1
   simp only [yV, and_true] at h1
   subst h1
   refine ⟨(rest', ws, ns), ⟨⟨h2, ⟨ws', ns', hR.circ hv ha (by rw [h3]; exact hv), hws, hns⟩, ?_⟩, h4⟩, ?_⟩
   ·show ws.length + cnt rest' arcs.length ≤ arcs.length ∧ ns.length = ws.length
    omega
   ·rw [← h3] at hle
    refine ⟨_, .refl _, ?_⟩
    simp only [patX, if_pos hw0]
    exact hle
 ·have hvf : decide (0 < valTo arcs f rest arcs.length) = false := decide_eq_false hv
  simp -implicitDefEqProofs only [rX,↓rY,ofConst,cells?,splice,↓reduceIte,Nat.reduceEqDiff,freshP,isC,cxN,get8,set8,wtl_len,wtl_out0,wtl_set0,hvf]
  cases hR with
  | step h _ _ => exact absurd h hv
  | stop h =>
   rw [yN] at hws hns
   subst hws hns
   exact hX rest _ _ _ hw0
end Go.Fx.P.F
namespace Go.Fx.P.F
open Go Go.Fx Go.Proofs
set_option maxRecDepth 20000
theorem cnt_all (rest : List Int) : ∀ n, cnt rest n ≤ n
 | 0 => yS _
 | n + 1 => by
  have := cnt_all rest n
  simp only [cnt]; split <;> omega
theorem begS_nil {arcs : List Arc} {N : Nat} : nilRows (vF N [V.nil]) (begS arcs N 0) := by
 refine ⟨by simp [begS], fun i x y hx hy => ?_⟩
 rw [List.getElem?_replicate] at hx
 split at hx
 ·rename_i hi
  simp only [vQ] at hx
  subst hx
  rw [yD (by rw [begS_len]; exact hi), begS_get] at hy
  simp only [vQ] at hy
  subst hy
  refine ⟨rfl, fun j a b ha hb => ?_⟩
  cases j with
  | zero =>
   simp at ha hb
   subst ha hb
   exact .inr ⟨rfl, i + 4, rfl⟩
  | succ j => simp at ha
 ·cases hx
theorem begB_zero {arcs : List Arc} {N : Nat} : vF N (Blk.arr 1 []) = begB arcs N 0 := by
 apply vE
 ·simp [begB]
 ·intro i h1 h2
  simp [begB, fromN, rows]
theorem leH_beg0 {arcs : List Arc} {N k : Nat} : leH (begB arcs N k) (begB arcs N k) := by
 have := leH_beg (arcs := arcs) (N := N) (k := k) (l := [])
 rwa [yN] at this
theorem check_flow {N : Nat} {arcs : List Arc} {f t : Int} {fl : List Int} (h : checkI N arcs f t fl = 0) : ∀ j : Int, 0 ≤ j → j < N → j ≠ f → j ≠ t → valTo arcs j fl arcs.length = 0 := by
 unfold checkI at h
 split at h
 ·simp at h
 ·split at h
  ·simp at h
  ·split at h
   ·rename_i h3; exact h3.1
   ·simp at h
theorem flow_Fv {N : Nat} {arcs : List Arc} {f t : Int} {flow : List Int} (hV : Val N arcs) (h : checkI N arcs f t flow = 0) : Fv N arcs f t flow := by
 obtain ⟨_, h1, h2⟩ := check0 h
 refine ⟨h1, fun q => ?_, check_flow h⟩
 by_cases hq : q < arcs.length
 ·have := (poss_iff h1).1 h2 q hq
  have := caps_in hV q
  omega
 ·simp [yA, uQ (show flow.length ≤ q by omega)]
def wsR (ws : List (List Nat)) : V := if ws = [] then .nil else .sl 4 0 ws.length
def wsB (ws : List (List Nat)) : Blk := if ws = [] then .dead else .arv 1 (wcs ws)
theorem body22x (N : Nat) (arcs : List Arc) (f t : Int) (wsT : List (List Nat)) (nsT : List Int) (hV : Val N arcs) (hf : 0 ≤ f ∧ f < N) (hft : f ≠ t) {RR : St → Prop} {X : Nat → St → Prop}
  (hX : ∀ rest b y z, X 2 ⟨(62, y) :: (61, z) :: (patX N arcs f t rest wsT nsT).e, (patX N arcs f t rest wsT nsT).h, b⟩)
  (g : List Int × List (List Nat) × List Int) (hI : InP N arcs f t wsT nsT g.1 g.2.1 g.2.2) :
  aw cx0 c76l1 (fun s' => ∃ g' : List Int × List (List Nat) × List Int, (InP N arcs f t wsT nsT g'.1 g'.2.1 g'.2.2 ∧ cnt g'.1 arcs.length < cnt g.1 arcs.length) ∧ leG cx0.fx s' (patX N arcs f t g'.1 g'.2.1 g'.2.2)) X RR (patX N arcs f t g.1 g.2.1 g.2.2) := by
 obtain ⟨rest, ws, ns⟩ := g
 by_cases hw : ws = []
 ·have e : patX N arcs f t rest ws ns = patO0 N arcs f t rest ws ns := by rw [patX, if_pos hw]
  show aw _ _ _ _ _ (patX N arcs f t rest ws ns)
  rw [e]
  refine body22b0 N arcs f t wsT nsT hV hf hft (fun rest b y z hn => ?_) rest ws ns hw hI
  have := hX rest b y z
  rw [patX, if_pos hn] at this
  exact this
 ·have e : patX N arcs f t rest ws ns = patO N arcs f t rest ws ns := by rw [patX, if_neg hw]
  show aw _ _ _ _ _ (patX N arcs f t rest ws ns)
  rw [e]
  refine body22b N arcs f t wsT nsT hV hf hft (fun rest b y z hn => ?_) (rest, ws, ns) hI hw
  have := hX rest b y z
  rw [patX, if_neg hn] at this
  exact this
theorem ok76 (N : Nat) (arcs : List Arc) (f t : Int) (flow : List Int) (wsT : List (List Nat)) (nsT : List Int) (hV : Val N arcs) (hc : checkI N arcs f t flow = 0) (hR : PR N arcs f t flow wsT nsT) : Ok 76 [.agg [.i N, .ro 4 (arcs.map Arc.enc)], .i f, .i t, li flow] (IsQ (fun _ : Unit => True) (fun _ => .tup [wsR wsT, .sl 5 0 nsT.length, .i 0]) (fun _ => .dead :: .dead :: .dead :: .dead :: wsB wsT :: .arr 1 (nsT.map encI) :: .dead :: .dead :: wtl wsT)) := by
 have hN := hV.hn
 have hL := hV.hl
 obtain ⟨he, hfl, hfp⟩ := check0 hc
 have hE : (0 ≤ f ∧ f < N) ∧ (0 ≤ t ∧ t < N) ∧ f ≠ t := by simpa [endsB] using he
 have hF := flow_Fv hV hc
 have h00 : ((0 : Int) != 0) = false := rfl
 refine ok_of lw76 (by simp) ?_
 unfold c76
 simp -implicitDefEqProofs only [rX,↓rY,ofConst,cells?,↓reduceIte,Nat.reduceEqDiff,Nat.reduceAdd,reduceCtorEq,freshP,cxN,args0,li]
 refine call_is (ok40 N arcs f t flow hV) ?_ rfl ?_
 ·simp [net, li, bli, lendsOk, lendOk, lends, lend, wkL, wk, wkB, wkR, pos]
 rw [hc]
 simp -implicitDefEqProofs only [rX,↓rY,ofConst,↓reduceIte,Nat.reduceEqDiff,reduceCtorEq,h00]
 refine call_isA [.bro 1 (flow.map encI)] _ (.sl 2 0 flow.length) _ [.arr 1 (flow.map encI)] (ok98 flow (by omega)) ?_ rfl rfl ?_
 ·simp [lendsOk, lendOk, lends, lend, wkL, wk, wkB, wkR, pos]
 simp -implicitDefEqProofs only [rX,↓rY,ofConst,cells?,splice,↓reduceIte,Nat.reduceEqDiff,Nat.reduceAdd,freshP,isC]
 refine ⟨⟨⟨by omega, by omega⟩, by omega, by omega⟩, fun _ => ?_⟩
 refine loopP_ghost (.virt N 1 (by decide) (.nilW 3 1 (vF N [V.nil]) (begS arcs N 0) rfl begS_nil (.refl _))) (pat7 N arcs flow f t) (fun k => k ≤ arcs.length) (fun k => arcs.length - k) 0 (vG _) ?_ (body22a N arcs flow f t hV ?_)
 ·unfold pat7 envP hp4
  simp -implicitDefEqProofs only [rX,↓reduceIte,Nat.reduceEqDiff,reduceCtorEq,leE,leH,leB,leV,leVs,keepP,liveP,wfE,wfB,wfV,wfL,leVs,leV,yF,begB_zero (arcs := arcs),eq_true leH_beg0,eq_true begS_wf,eq_true begB_wf]
 intro b y z
 unfold envP hp4
 have hvb := val_in2 hF
 simp only [↓reduceIte]
 simp -implicitDefEqProofs only [rX,↓rY,ofConst,↓reduceIte,Nat.reduceEqDiff,Nat.reduceAdd]
 refine call_is (ok37 N f arcs flow hfl (by omega) hN.2 (hV.flow hfl hfp) (fun a ha => (hV.ha a ha).1) (by omega)) ?_ rfl ?_
 ·simp [net, li, bli, lendsOk, lendOk, lends, lend, wkL, wk, wkB, wkR, pos]
 simp -implicitDefEqProofs only [rX,↓reduceIte]
 refine loopP_back (fun g : List Int × List (List Nat) × List Int => patX N arcs f t g.1 g.2.1 g.2.2) (fun g => InP N arcs f t wsT nsT g.1 g.2.1 g.2.2) (fun g => cnt g.1 arcs.length) (flow, [], []) ⟨hF, ⟨wsT, nsT, hR, rfl, rfl⟩, by have := cnt_all flow arcs.length; simpa using this⟩ ?_ (body22x N arcs f t wsT nsT hV hE.1 hE.2.2 ?_)
 ·refine ⟨_, .give (fun k => decide (4 ≤ k)) (by simp) (.le (p := ⟨[(18, .i (valTo arcs f flow arcs.length)), (17, .nil), (16, .nil), (13, .sl 3 0 N), (12, .ptr 1 0 0), (4, .ptr 0 0 0), (2, .i t), (1, .i f)], hp4 N arcs flow (begR arcs N) [], 0⟩) ?_ (.virt 4 1 (by decide) (.nilE 17 5 rfl (.refl _)))), ?_⟩
  ·unfold hp4
   simp -implicitDefEqProofs only [rX,↓reduceIte,Nat.reduceEqDiff,Nat.reduceAdd,leE,leH,leB,leV,leVs,keepP,liveP,wfE,wfB,wfV,wfL,Nat.reduceLeDiff,leVs,leV,St.give,gvE,gvV,gvH,gvB,gvL,begS_give,eq_true begR_wf,decide_false]
  ·have e9 : wtl [] = [] := rfl
   have ex : (([] : List (List Nat)) = []) = True := by simp
   unfold patX patO0 envO0 hp4
   simp -implicitDefEqProofs only [rX,↓reduceIte,Nat.reduceEqDiff,leE,leH,leB,leV,leVs,keepP,liveP,wfE,wfB,wfV,wfL,leVs,leV,eq_true begR_wf,e9]
 intro rest b2 y2 z2
 simp only [↓reduceIte]
 by_cases hw : wsT = []
 ·simp only [patX, wsR, wsB, if_pos hw]
  unfold patO0 envO0 hp4
  simp -implicitDefEqProofs only [rX,ofConst,↓reduceIte,Nat.reduceEqDiff]
  refine retP_isQ (Q := fun _ : Unit => True) () trivial ?_
  simp -implicitDefEqProofs only [rX,↓reduceIte,Nat.reduceEqDiff,resP,tupV,leH,leB,keepP,liveP,wfB,wfV,wfL,Nat.reduceLeDiff,eq_true leH_wtl0,eq_true wtl_wf]
 ·simp only [patX, wsR, wsB, if_neg hw]
  unfold patO envO hp4
  simp -implicitDefEqProofs only [rX,ofConst,↓reduceIte,Nat.reduceEqDiff]
  refine retP_isQ (Q := fun _ : Unit => True) () trivial ?_
  simp -implicitDefEqProofs only [rX,↓reduceIte,Nat.reduceEqDiff,resP,tupV,leH,leB,keepP,liveP,wfB,wfV,wfL,Nat.reduceLeDiff,eq_true leH_wtl0,eq_true wtl_wf,eq_true wcs_wf0]
end Go.Fx.P.F
namespace Go.Fx.P.F
open Go Go.Fx Go.Proofs
set_option maxRecDepth 20000
end Go.Fx.P.F
namespace Go.Fx.P.F
open Go Go.Fx Go.Proofs
set_option maxRecDepth 20000
@[congr] theorem c_frz1 {fx : List Nat} {k : Nat} {B B' : Blk} {s : St} {K : St → Prop} (q : B = B') : frz1 fx k B s K = frz1 fx k B' s K := by rw [q]
@[congr] theorem c_frzP {fx xs : List Nat} {s s' : St} {K : St → Prop} (q : s = s') : frzP fx xs s K = frzP fx xs s' K := by rw [q]
end Go.Fx.P.F
namespace Go.Fx.P
open Go Go.Fx Go.Proofs
set_option maxRecDepth 20000
def offB (ps : List Spot) (i : Nat) : Bool := decide (ps.length ≤ i)
section
variable (ps : List Spot) (rs : List Road)
theorem ok77 (i : Nat) : OkN Try.prog 77 [.i i, .ptr 0 0 0] [plB ps rs] [] (IsA (.b (offB ps i)) [plB ps rs]) := by
 refine okN_of pol [0] lw77 (by simp) ⟨trivial, trivial⟩ (by simp) ?_
 unfold c77 plB
 simp -implicitDefEqProofs only [rX,↓rY,ofConst,↓reduceIte,Nat.reduceEqDiff,reduceCtorEq,resP,tupV,leH,leB,leV,leVs,keepP,liveP,wfB,wfV,wfL,cxN,args0,cxN,retP_isA]
 refine fun _ => ?_
 rw [offB, decide_eq_decide]; omega
def firstW (l : List Nat) : Int := if l.any (offB ps) then (l.findIdx (offB ps) : Nat) else -1
theorem ok82w (l : List Nat) (hn : l.length ≤ 4096) : OkN Try.prog 82 [.bro 1 (l.map nE), .clo 77 [.ptr 0 0 0]] [plB ps rs] [] (IsA (.i (firstW ps l)) [plB ps rs]) := by
 refine okN_of pol [0] lw82 (by simp) ⟨trivial, trivial⟩ (by simp) ?_
 unfold c82
 simp -implicitDefEqProofs only [rX,↓rY,ofConst,↓reduceIte,reduceCtorEq,cxN,args0,cxN]
 intro hm
 refine loopP_intro (fun k : Nat => ⟨[(8, .i k), (7, .i l.length), (1, .clo 77 [.ptr 0 0 0]), (0, .bro 1 (l.map nE))], [plB ps rs], 0⟩) (fun k => k ≤ l.length ∧ ∀ j (h : j < l.length), j < k → offB ps l[j] = false) (fun k => l.length - k) 0 (by simp) ?_ ?_
 ·simp -implicitDefEqProofs only [rX,↓reduceIte,Nat.reduceEqDiff,reduceCtorEq,leE,leH,leB,leV,leVs,keepP,liveP,wfE,wfB,wfV,wfL,yF,plB,leVs,leV]
 rintro k ⟨hk, hv⟩
 unfold c82l0
 simp -implicitDefEqProofs only [rX,↓rY,ofConst,↓reduceIte,Nat.reduceEqDiff,reduceCtorEq,nE]
 simp only [br, Int.toNat_natCast, decide_eq_true_eq, decide_eq_false_iff_not]
 refine ⟨fun h => ⟨⟨by omega, h⟩, by omega, ?_⟩, fun h => ?_⟩
 ·have hk : k < l.length := by omega
  refine call_isN [0] [.i l[k], .ptr 0 0 0] (.b (offB ps l[k])) (.b (offB ps l[k])) [plB ps rs] [plB ps rs] [plB ps rs] (ok77 ps rs l[k]) ⟨by simp, by simp⟩ rfl (by simp [lendsOk, lendOk, lends, lend, wkL, wk, pos]) (by simp) rfl rfl ⟨trivial, trivial⟩ ?_
  cases hb : offB ps l[k] with
  | true =>
   simp -implicitDefEqProofs only [rX,↓rY,↓reduceIte,Nat.reduceEqDiff,resP,tupV,leH,leB,leV,leVs,keepP,liveP,wfB,wfV,wfL,retP_isA]
   have h1 : l.any (offB ps) = true := by
    rw [List.any_eq_true]; exact ⟨_, yE hk, hb⟩
   have h2 : l.findIdx (offB ps) = k := by
    rw [List.findIdx_eq hk]
    exact ⟨hb, fun j hj => hv j (by omega) hj⟩
   simp [firstW, h1, h2]
  | false =>
   simp -implicitDefEqProofs only [rX,↓rY,ofConst,↓reduceIte,Nat.reduceEqDiff,reduceCtorEq,leE,leH,leB,leV,leVs,keepP,liveP,wfE,wfB,wfV,wfL]
   refine ⟨by simp only [lo, Fx.hi, maxLen] at hm ⊢; omega, k + 1, ⟨⟨by omega, fun j hj h2 => ?_⟩, by omega⟩, by simp⟩
   by_cases h3 : j = k
   ·subst h3; exact hb
   ·exact hv j hj (by omega)
 ·have : k = l.length := by omega
  have hall : l.any (offB ps) = false := by
   rw [List.any_eq_false]; intro x hx
   obtain ⟨j, hj, rfl⟩ := yT hx
   simpa using hv j hj (by omega)
  simp -implicitDefEqProofs only [rX,↓reduceIte,resP,tupV,leH,leB,leV,leVs,keepP,liveP,wfB,wfV,wfL,retP_isA]
  simp [firstW, hall]
def keptW (l : List Nat) : List Nat := l.filter fun i => !offB ps i
theorem ok53w (l : List Nat) (hn : l.length ≤ 4096) :
  OkN Try.prog 53 [.sl 1 0 l.length, .clo 77 [.ptr 0 0 0]] [plB ps rs, .arr 1 (l.map nE)] [] (IsQ (fun z : List Nat => True) (fun _ => .sl 1 0 (keptW ps l).length) (fun z => [plB ps rs, .arr 1 ((keptW ps l ++ z).map nE)])) := by
 refine okN_of pol [0, 1] lw53 (by simp) ⟨trivial, trivial, trivial⟩ (by simp; omega) ?_
 unfold c53
 simp -implicitDefEqProofs only [rX,ofConst,↓reduceIte,Nat.reduceEqDiff,Nat.reduceAdd,reduceCtorEq,cxN,args0,cxN]
 have htk : yJ l.length (l.map nE) = l.map nE := vC (by simp)
 refine call_isN [0] [.bro 1 (l.map nE), .clo 77 [.ptr 0 0 0]] (.i (firstW ps l)) (.i (firstW ps l)) [plB ps rs] [plB ps rs] _ (ok82w ps rs l hn) ⟨by simp, by simp⟩ rfl (by simp [lendsOk, lendOk, lends, lend, wkL, wk, wkB, wkR, pos, lnat, blk, htk]) (by simp) rfl rfl ⟨trivial, trivial, trivial⟩ ?_
 simp -implicitDefEqProofs only [rX,↓rY,ofConst,↓reduceIte,Nat.reduceEqDiff,Nat.reduceAdd,reduceCtorEq,plB,setAll,renB,rens,ren]
 rw [firstW]
 cases hany : l.any (offB ps) with
 | false =>
  simp only [Bool.false_eq_true, if_false, beq_self_eq_true, br, true_implies]
  have hk : keptW ps l = l := by
   rw [keptW, uU]
   intro a ha
   have := List.any_eq_false.1 hany a ha
   simpa using this
  refine ⟨?_, fun h => by cases h⟩
  refine retP_isQ (Q := fun _ : List Nat => True) [] trivial ?_
  simp -implicitDefEqProofs only [rX,↓reduceIte,Nat.reduceAdd,resP,tupV,leH,leB,leV,leVs,keepP,liveP,wfB,wfV,wfL,hk]
 | true =>
 obtain ⟨a, ha, hfa⟩ := List.any_eq_true.1 hany
 have hlt : l.findIdx (offB ps) < l.length := List.findIdx_lt_length_of_exists ⟨a, ha, hfa⟩
 generalize hm0 : l.findIdx (offB ps) = m0 at *
 have hne : (((m0 : Nat) : Int) == -1) = false := by simp
 simp only [if_true, hne, br, Bool.false_eq_true, false_implies, true_implies, true_and]
 refine ⟨by simp only [lo, Fx.hi]; omega, ?_⟩
 have hpre : (l.take (m0 + 1)).filter (fun i => !offB ps i) = l.take m0 := by
  rw [uV hlt, vX, uU.2]
  ·have : offB ps (l[m0]) = true := by subst hm0; exact List.findIdx_getElem
   simp [this]
  ·intro a ha
   obtain ⟨j, hj, rfl⟩ := yT ha
   rw [List.getElem_take]
   have := List.not_of_lt_findIdx (p := offB ps) (xs := l) (i := j) (by rw [hm0]; rw [List.length_take] at hj; omega)
   simpa using this
 refine loopP_intro (fun g : Nat × List Nat => ⟨[(6, .i g.1), (5, .i ((l.take g.1).filter fun i => !offB ps i).length), (0, .sl 1 0 l.length), (1, .clo 77 [.ptr 0 0 0])], [plB ps rs, .arr 1 (((l.take g.1).filter (fun i => !offB ps i) ++ g.2 ++ l.drop g.1).map nE)], 0⟩) (fun g => g.1 ≤ l.length ∧ 0 < g.2.length ∧ ((l.take g.1).filter fun i => !offB ps i).length + g.2.length = g.1) (fun g => l.length - g.1) (m0 + 1, [l[m0]]) ⟨by omega, by simp, by rw [hpre]; simp; omega⟩ ?_ ?_
 ·simp -implicitDefEqProofs only [rX,↓reduceIte,Nat.reduceEqDiff,reduceCtorEq,leE,leH,leB,leV,leVs,keepP,liveP,wfE,wfB,wfV,wfL,plB,hpre]
  refine ⟨⟨by omega, by rw [List.length_take]; omega⟩, ?_⟩
  congr 2
  rw [vH]
  simp
 rintro ⟨j, mid⟩ ⟨hj, hmid, hlen⟩
 simp only at hj hmid hlen
 unfold c53l0
 generalize hA : (l.take j).filter (fun i => !offB ps i) = A at *
 simp -implicitDefEqProofs only [rX,↓rY,↓reduceIte,Nat.reduceEqDiff,arrSz,Nat.reduceAdd,reduceCtorEq,slcOk,plB]
 intro hmx
 simp only [br, decide_eq_true_eq, decide_eq_false_iff_not]
 refine ⟨fun h => ?_, fun h => ?_⟩
 ·have hj2 : j < l.length := by omega
  have hLl : (A ++ mid ++ l.drop j).length = l.length := by simp; omega
  have hLj : (A ++ mid ++ l.drop j)[j]'(by omega) = l[j] := by
   rw [List.getElem_append_right (by simp; omega)]
   simp [show j - (A.length + mid.length) = 0 by omega]
  refine ⟨⟨by omega, h⟩, by rw [vA]; omega, ?_⟩
  rw [hLj]
  simp -implicitDefEqProofs only [rX,↓rY,nE]
  refine call_isN [0] [.i l[j], .ptr 0 0 0] (.b (offB ps l[j])) (.b (offB ps l[j])) [plB ps rs] [plB ps rs] _ (ok77 ps rs l[j]) ⟨by simp, by simp⟩ rfl (by simp [lendsOk, lendOk, lends, lend, wkL, wk, pos]) (by simp) rfl rfl ⟨trivial, trivial, trivial⟩ ?_
  have hA1 : (l.take (j + 1)).filter (fun i => !offB ps i) = A ++ (if offB ps l[j] = true then [] else [l[j]]) := by
   rw [uV hj2, vX, hA]
   cases hfb : offB ps l[j] <;> simp [hfb]
  have hd : l.drop j = l[j] :: l.drop (j + 1) := uN hj2
  cases hb : offB ps l[j] with
  | true =>
   rw [hb, if_pos rfl, yN] at hA1
   simp -implicitDefEqProofs only [rX,↓rY,ofConst,↓reduceIte,Nat.reduceEqDiff,Nat.reduceAdd,reduceCtorEq,leE,leH,leB,leV,leVs,keepP,liveP,wfE,wfB,wfV,wfL,plB,setAll,renB,rens,ren]
   refine ⟨by simp only [lo, Fx.hi]; omega, (j + 1, mid ++ [l[j]]), ?_, ?_⟩
   ·simp only [hA1, yH, yW, vB]
    omega
   ·simp -implicitDefEqProofs only [rX,hA1]
    refine ⟨by omega, ?_⟩
    congr 2
    rw [hd]; simp
  | false =>
   rw [hb, if_neg (by simp)] at hA1
   simp -implicitDefEqProofs only [rX,↓rY,ofConst,cells?,splice,↓reduceIte,Nat.reduceEqDiff,arrSz,Nat.reduceAdd,reduceCtorEq,leE,leH,leB,leV,leVs,keepP,liveP,wfE,wfB,wfV,wfL,isD,isC,plB,setAll,renB,rens,ren]
   obtain ⟨x, ms, rfl⟩ : ∃ x ms, mid = x :: ms := by
    cases mid with
    | nil => simp at hmid
    | cons x ms => exact ⟨x, ms, rfl⟩
   simp only [yW] at hlen
   refine ⟨⟨by omega, by omega⟩, by rw [vA, yW]; omega, by simp only [lo, Fx.hi]; omega, by simp only [lo, Fx.hi]; omega, (j + 1, ms ++ [l[j]]), ?_, ?_⟩
   ·simp only [hA1, yH, yW, vB]
    omega
   ·simp only [hA1, yH, yW, vB]
    refine ⟨⟨by omega, by omega⟩, ?_⟩
    congr 1
    have e : (V.v (.int .i64 ((l[j] : Nat) : Int)) :: vL 1 (nE ((A ++ x :: ms ++ l.drop j)[A.length]'(by simp)))) = nE l[j] := rfl
    rw [e, ← List.map_set]
    congr 1
    rw [hd]
    simp
 ·have hj3 : j = l.length := by omega
  subst hj3
  rw [uH] at hA
  have hk : keptW ps l = A := hA
  refine ⟨⟨⟨by omega, by omega⟩, by omega⟩, by rw [vA]; omega, ⟨⟨by omega, by omega⟩, by omega, by omega⟩, ?_⟩
  refine retP_isQ (Q := fun _ : List Nat => True) (vF (l.length - A.length) 0) trivial ?_
  rw [hk, List.drop_length, yN]
  have e1 : yJ A.length ((A ++ mid).map nE) = A.map nE := by simp
  have e2 : vL (A.length + (l.length - A.length)) ((A ++ mid).map nE) = [] := List.drop_of_length_le (by simp; omega)
  rw [e1, e2]
  simp -implicitDefEqProofs only [rX,↓reduceIte,Nat.reduceAdd,resP,tupV,leH,leB,leV,leVs,keepP,liveP,wfB,wfV,wfL,yG,List.map_replicate]
  refine ⟨rfl, ?_⟩
  rfl
end
theorem FVal {N : Nat} {arcs : List Arc} (h : K.Val N arcs) : F.Val N arcs := ⟨h.hn, h.hl, fun a ha => by
 obtain ⟨h1, h2, h3, h4, h5⟩ := h.ha a ha
 exact ⟨⟨h1, h2, h3⟩, h4⟩⟩
theorem valFK (arcs : List Arc) (x : Int) (fl : List Int) : ∀ k, F.valTo arcs x fl k = K.valTo arcs x fl k
 | 0 => rfl
 | k + 1 => by simp only [F.valTo, K.valTo, valFK arcs x fl k]
theorem check_flow {N : Nat} {arcs : List Arc} {f t : Int} {fl : List Int} (h : F.checkI N arcs f t fl = 0) : ∀ j : Int, 0 ≤ j → j < N → j ≠ f → j ≠ t → F.valTo arcs j fl arcs.length = 0 := by
 unfold F.checkI at h
 split at h
 ·simp at h
 ·split at h
  ·simp at h
  ·split at h
   ·rename_i h3; exact h3.1
   ·simp at h
theorem check_ok {N : Nat} {arcs : List Arc} {f t : Int} {fl : List Int} (he : F.endsB N f t = true) (h : K.OkF N arcs f t fl) (h0 : 0 ≤ K.valTo arcs f fl arcs.length) : F.checkI N arcs f t fl = 0 := by
 unfold F.checkI
 rw [if_neg (by simp [he, h.hl]), if_neg (fun hh => hh h.hp), if_pos]
 exact ⟨fun j a b c d => by rw [valFK]; exact h.hz j a b c d, by rw [valFK]; exact h0⟩
end Go.Fx.P
namespace Go.Fx.P.F
open Go Go.Fx Go.Proofs
section
variable {N : Nat} {arcs : List Arc} {f t : Int}
theorem tk_le {rest : List Int} {w : List Nat} (hnd : w.Nodup) (hw : ∀ i ∈ w, i < rest.length) (h0 : 0 ≤ tkN rest w) (q : Nat) : (tkR rest w).getD q 0 ≤ rest.getD q 0 := by
 unfold tkR
 rw [tkAll_get hnd hw]
 split <;> omega
def AttOk2 (N : Nat) (arcs : List Arc) (f t : Int) (rest : List Int) (r : List Int × Option (List Nat)) : Prop :=
 (∃ w, r = (rest, some w) ∧ Wv N arcs f rest w t) ∨ (∃ rest', r = (rest', none) ∧ ∀ q, rest'.getD q 0 ≤ rest.getD q 0)
theorem att_ok2 (hV : Val N arcs) (hft : f ≠ t) {rest : List Int} (hF : Fv N arcs f t rest) (hv : 0 < valTo arcs f rest arcs.length) : ∀ (n : Nat) (way : List Nat) (at_ : Int), Wv N arcs f rest way at_ → N + 1 = way.length + n → AttOk2 N arcs f t rest (att arcs t n rest way at_)
 | 0, way, at_, hW, hn => by
  have := hW.len hV
  omega
 | n + 1, way, at_, hW, hn => by
  unfold att
  by_cases hat : at_ = t
  ·rw [if_pos hat]
   exact .inl ⟨way, rfl, hat ▸ hW⟩
  ·rw [if_neg hat]
   obtain ⟨i, hi⟩ := first_ex hF hv hW hat
   rw [hi]
   simp only
   cases hs : seenI arcs (way ++ [i]) (gA arcs i).to with
   | none => exact att_ok2 hV hft hF hv n (way ++ [i]) _ (hW.more hV hi hs) (by simp; omega)
   | some k =>
    obtain ⟨hk, h1, _⟩ := seen_is hs
    obtain ⟨g1, g2, g3⟩ := hW.half hi
    have hd := isW_drop g1 hk
    rw [h1] at hd
    have hne : (way ++ [i]).drop k ≠ [] := by
     intro e
     have := congrArg vU e
     rw [vA, vB] at this
     omega
    have hnd : ((way ++ [i]).drop k).Nodup := vP (vV _ _) (nodup_of_map g3)
    have hp : ∀ j ∈ (way ++ [i]).drop k, j < arcs.length ∧ 0 < rest.getD j 0 := fun j hj => g2 j (vW hj)
    have hto := take_ok hF hd hne hnd hp
    exact .inr ⟨_, rfl, tk_le hnd (fun j hj => by rw [hF.len]; exact (hp j hj).1) (Int.le_of_lt hto.1)⟩
theorem PW.ok2 (hV : Val N arcs) (hf : 0 ≤ f ∧ f < N) (hft : f ≠ t) {rest rest1 : List Int} {w : List Nat} (h : PW N arcs f t rest rest1 w) : Fv N arcs f t rest → 0 < valTo arcs f rest arcs.length →
  Fv N arcs f t rest1 ∧ valTo arcs f rest1 arcs.length = valTo arcs f rest arcs.length ∧ Wv N arcs f rest1 w t ∧ ∀ q, rest1.getD q 0 ≤ rest.getD q 0 := by
 induction h with
 | way h =>
  intro hF hv
  rcases att_ok2 hV hft hF hv (N + 1) [] f (Wv.begin hf _) (by simp) with ⟨w', h1, h2⟩ | ⟨_, h1, _⟩
  ·rw [h] at h1
   simp only [yV, vQ, true_and] at h1
   subst h1
   exact ⟨hF, rfl, h2, fun _ => yU _⟩
  ·rw [h] at h1
   simp at h1
 | circ h _ ih =>
  intro hF hv
  rcases att_ok hV hft hF hv (N + 1) [] f (Wv.begin hf _) (by simp) with ⟨w', h1, _⟩ | ⟨r2, h1, h2, h3, h4⟩
  ·rw [h] at h1
   simp at h1
  ·rw [h] at h1
   simp only [yV, and_true] at h1
   subst h1
   rcases att_ok2 hV hft hF hv (N + 1) [] f (Wv.begin hf _) (by simp) with ⟨w', h5, _⟩ | ⟨r3, h5, h6⟩
   ·rw [h] at h5
    simp at h5
   ·rw [h] at h5
    simp only [yV, and_true] at h5
    subst h5
    obtain ⟨g1, g2, g3, g4⟩ := ih h2 (by omega)
    exact ⟨g1, by omega, g3, fun q => Int.le_trans (g4 q) (h6 q)⟩
def useN : List (List Nat) → List Int → Nat → Int
 | w :: ws, m :: ms, q => (if q ∈ w then m else 0) + useN ws ms q
 | _, _, _ => 0
def totN : List Int → Int
 | [] => 0
 | m :: ms => m + totN ms
structure Way (arcs : List Arc) (f t : Int) (w : List Nat) : Prop where
 walk : isW arcs f w t
 ne : w ≠ []
 lt : ∀ j ∈ w, j < arcs.length
 nod : (w.map fun i => (gA arcs i).from_).Nodup
 new : t ∉ w.map fun i => (gA arcs i).from_
structure Good (arcs : List Arc) (f t : Int) (rest : List Int) (ws : List (List Nat)) (ns : List Int) : Prop where
 len : ns.length = ws.length
 cnt : ws.length ≤ cnt rest arcs.length
 way : ∀ w ∈ ws, Way arcs f t w
 num : ∀ m ∈ ns, 0 < m ∧ m ≤ 1073741824
 use : ∀ q, useN ws ns q ≤ rest.getD q 0
 tot : ∃ v, valTo arcs f rest arcs.length = totN ns + v ∧ v ≤ 0
theorem PR.good (hV : Val N arcs) (hf : 0 ≤ f ∧ f < N) (hft : f ≠ t) {rest : List Int} {ws : List (List Nat)} {ns : List Int} (h : PR N arcs f t rest ws ns) : Fv N arcs f t rest → Good arcs f t rest ws ns := by
 induction h with
 | @stop rest h =>
  intro hF
  exact ⟨rfl, vG _, by simp, by simp, fun q => by simp only [useN]; exact (hF.rng q).1, _, (uO _).symm, h⟩
 | @step rest rest1 w ws ns h h2 _ ih =>
  intro hF
  obtain ⟨g1, g2, g3, g4⟩ := h2.ok2 hV hf hft hF h
  have hne : w ≠ [] := by
   intro e
   have := g3.walk
   rw [e] at this
   exact hft this
  have hnd := nodup_of_map g3.nod
  have hto := take_ok g1 g3.walk hne hnd g3.pos
  have hFv := take_Fv g1 g3.walk hne hnd g3.pos (.inr ⟨rfl, rfl⟩)
  have ih := ih hFv
  have hc1 : F.cnt rest1 arcs.length ≤ F.cnt rest arcs.length := cnt_le g4 _
  have htk := tkN_is (rest := rest1) hne
  have hr1 : ∀ q, (tkR rest1 w).getD q 0 = rest1.getD q 0 - (if q ∈ w then tkN rest1 w else 0) := fun q => by
   unfold tkR
   rw [tkAll_get hnd (fun i hi => by rw [g1.len]; exact (g3.pos i hi).1)]
  obtain ⟨v, hv1, hv2⟩ := ih.tot
  refine ⟨by simp [ih.len], ?_, ?_, ?_, fun q => ?_, v, ?_, hv2⟩
  ·have := ih.cnt
   have := hto.2.2.2.1
   simp only [yW]; omega
  ·intro w' hw'
   rcases vN.1 hw' with rfl | hw'
   ·exact ⟨g3.walk, hne, fun j hj => (g3.pos j hj).1, g3.nod, g3.new⟩
   ·exact ih.way _ hw'
  ·intro m hm
   rcases vN.1 hm with rfl | hm
   ·obtain ⟨i, hi, e⟩ := htk.2
    have := g1.rng i
    omega
   ·exact ih.num _ hm
  ·have h5 := ih.use q
   have h6 := g4 q
   rw [hr1] at h5
   simp only [useN]
   omega
  ·have h7 := hto.2.2.2.2 f
   rw [if_pos rfl, if_neg (fun e => hft e.symm)] at h7
   simp only [totN]
   omega
end
end Go.Fx.P.F
namespace Go.Fx.P
open Go Go.Fx Go.Proofs
set_option maxRecDepth 20000
def findW (arcs : List Arc) (tgt : Int) : List (List Nat) → List Int → Int → Option (List Nat)
 | w :: ws, m :: ms, n => if (F.gA arcs (w.getD 0 0)).to = tgt then (if n < m then some w else findW arcs tgt ws ms (n - m)) else findW arcs tgt ws ms n
 | _, _, _ => none
def rt (ps : List Spot) (arcs : List Arc) (ws : List (List Nat)) (ns : List Int) (place n : Int) : List Nat × Int :=
 if place < 0 ∨ (ps.length : Int) ≤ place ∨ isK ps 1 place.toNat = false then ([], 5) else
 if n < 0 then ([], 1) else
 match findW arcs (2 + 2 * place) ws ns n with
 | some w => (keptW ps w, 0)
 | none => ([], 1)
section
variable (ps : List Spot) (rs : List Road) (fr : Fr)
theorem ok50 (place : Int) : Ok 50 [plant ps rs, fr.enc, .i place] (IsA (.clo 75 [.ptr 0 0 0, .ptr 1 0 0, .ptr 2 0 0]) [plB ps rs, K.frB fr, .var [.i place]]) := by
 refine ok_of lw50 (by simp) ?_
 unfold c50 plant sps rds Fr.enc li
 simp -implicitDefEqProofs only [rX,↓rY,ofConst,cells?,↓reduceIte,Nat.reduceEqDiff,Nat.reduceAdd,reduceCtorEq,freshP,resP,tupV,leH,leB,leV,leVs,keepP,liveP,wfB,wfV,wfL,Nat.reduceLeDiff,cxN,args0,retP_isA,K.frB]
def wcsB (b : Nat) (ws : List (List Nat)) : List (List V) := (yM ws.length).map fun j => [.sl (j + b) 0 (ws.getD j []).length]
theorem wcs_up {ws : List (List Nat)} {n : Nat} : (F.wcs ws).map (rens (fun j => some (n + j))) = wcsB (n + 8) ws := by
 unfold F.wcs wcsB
 rw [yL]
 refine vI fun j _ => ?_
 simp [rens, ren]; omega
theorem wtl_up {ws : List (List Nat)} {g : Nat → Option Nat} : (F.wtl ws).map (renB g) = F.wtl ws := by
 unfold F.wtl
 rw [yL]; rfl
abbrev envR : Env := [(9, .ptr 4 0 0), (8, .ptr 3 0 0), (7, .ptr 2 0 0)]
abbrev hpR (place n : Int) (T : List Blk) : List Blk := .dead :: .dead :: .var [.i n] :: .var [.nil] :: .var [.i 0] :: plB ps rs :: K.frB fr :: .var [.i place] :: .rcd .ready envR :: T
abbrev hpW (ws : List (List Nat)) (ns : List Int) (T : List Blk) : List Blk := .var [.i (nN ps), .ro 4 ((netOf ps rs).map Arc.enc)] :: .dead :: .dead :: .dead :: .dead :: .arv 1 (wcsB 18 ws) :: .arr 1 (ns.map encI) :: .dead :: .dead :: T
structure TOk (ws : List (List Nat)) (i : Nat) (T : List Blk) : Prop where
 len : T.length = ws.length
 arr : ∀ b ∈ T, ∃ els, b = .arr 1 els
 at_ : ∀ j, i ≤ j → (h : j < ws.length) → T[j]? = some (.arr 1 (F.rows ws[j]))
theorem TOk.next {ws : List (List Nat)} {i : Nat} {T : List Blk} (h : TOk ws i T) : TOk ws (i + 1) T := ⟨h.len, h.arr, fun j hj => h.at_ j (by omega)⟩
theorem TOk.put {ws : List (List Nat)} {i : Nat} {T : List Blk} (h : TOk ws i T) (els : List (List V)) : TOk ws (i + 1) (T.set i (.arr 1 els)) := by
 refine ⟨by simp [h.len], fun b hb => ?_, fun j hj hlt => ?_⟩
 ·rcases List.mem_or_eq_of_mem_set hb with hb | rfl
  ·exact h.arr b hb
  ·exact ⟨_, rfl⟩
 ·rw [List.getElem?_set_ne (by omega)]
  exact h.at_ j (by omega) hlt
theorem TOk.first (ws : List (List Nat)) : TOk ws 0 (F.wtl ws) := ⟨F.wtl_len, fun b hb => F.wtl_all hb, fun j _ h => by simp [F.wtl, h]⟩
theorem TOk.le {ws : List (List Nat)} {i : Nat} {T l : List Blk} (h : TOk ws i T) : leH (T ++ l) T := F.arr_leH h.arr
theorem TOk.le0 {ws : List (List Nat)} {i : Nat} {T : List Blk} (h : TOk ws i T) : leH T T := by
 have := h.le (l := [])
 rwa [yN] at this
theorem get18 {α : Type} {a b c d e f g h i j k l m n o p q r : α} {L : List α} {x : Nat} : (a :: b :: c :: d :: e :: f :: g :: h :: i :: j :: k :: l :: m :: n :: o :: p :: q :: r :: L)[x + 18]? = L[x]? := rfl
theorem set18 {α : Type} {a b c d e f g h i j k l m n o p q r y : α} {L : List α} {x : Nat} : (a :: b :: c :: d :: e :: f :: g :: h :: i :: j :: k :: l :: m :: n :: o :: p :: q :: r :: L).set (x + 18) y = a :: b :: c :: d :: e :: f :: g :: h :: i :: j :: k :: l :: m :: n :: o :: p :: q :: r :: L.set x y := rfl
theorem wcsB_len {b : Nat} {ws : List (List Nat)} : (wcsB b ws).length = ws.length := by simp [wcsB]
theorem wcsB_get {b i : Nat} {ws : List (List Nat)} (h : i < (wcsB b ws).length) : (wcsB b ws)[i] = [.sl (i + b) 0 (ws[i]'(by simpa [wcsB] using h)).length] := by
 have : i < ws.length := by simpa [wcsB] using h
 simp [wcsB, this]
theorem wcsB_kill {b : Nat} {ws : List (List Nat)} {M : List Nat} (h : ∀ k ∈ M, k < b) : (wcsB b ws).map (kills M) = wcsB b ws := by
 unfold wcsB
 rw [yL]
 refine vI fun j _ => ?_
 have : ¬ (j + b) ∈ M := fun hm => by have := h _ hm; omega
 simp [kills, kill, this]
theorem wcsB_wfl {ws : List (List Nat)} {i : Nat} {T L : List Blk} (hT : TOk ws i T) {a b c d e f g h i' j k l m n o p q r : Blk} : wfL (a :: b :: c :: d :: e :: f :: g :: h :: i' :: j :: k :: l :: m :: n :: o :: p :: q :: r :: (T ++ L)) (wcsB 18 ws).flatten := by
 refine F.wfL_all fun x hx => ?_
 rw [vY] at hx
 obtain ⟨M, h1, h2⟩ := hx
 unfold wcsB at h1
 rw [yI] at h1
 obtain ⟨v, hv, rfl⟩ := h1
 rw [yK] at hv
 rw [yZ] at h2
 subst h2
 have hv2 : v < T.length := by rw [hT.len]; exact hv
 obtain ⟨els, he⟩ := hT.arr _ (yE hv2)
 simp only [wfV, liveP, get18, vD hv2, yD hv2, he]
theorem wcsB_wf {ws : List (List Nat)} {i : Nat} {T : List Blk} (hT : TOk ws i T) {a b c d e f g h i' j k l m n o p q r : Blk} : wfL (a :: b :: c :: d :: e :: f :: g :: h :: i' :: j :: k :: l :: m :: n :: o :: p :: q :: r :: T) (wcsB 18 ws).flatten := by
 have := wcsB_wfl hT (L := []) (a := a) (b := b) (c := c) (d := d) (e := e) (f := f) (g := g) (h := h) (i' := i') (j := j) (k := k) (l := l) (m := m) (n := n) (o := o) (p := p) (q := q) (r := r)
 rwa [yN] at this
theorem arr_wfl {q L : List Blk} (hL : wfB q L) : ∀ {l : List Blk}, (∀ b ∈ l, ∃ els, b = .arr 1 els) → wfB q (l ++ L)
 | [], _ => hL
 | b :: r, h => by
  obtain ⟨els, rfl⟩ := h b yB
  exact arr_wfl hL (l := r) fun b hb => h b (yC _ hb)
theorem ok24 (h : IsPlan ps rs fr) (place n : Int) (hnb : n ≤ 9223372036854775807) (ws : List (List Nat)) (ns : List Int) (hR : F.PR (nN ps) (netOf ps rs) 0 1 fr.flow ws ns) :
  Ok 24 [plant ps rs, fr.enc, .i place, .i n] (Is (.tup [lnat (rt ps (netOf ps rs) ws ns place n).1, .i (rt ps (netOf ps rs) ws ns place n).2])) := by
 refine okN_give (R := fun r hs => wk (.tup [lnat (rt ps (netOf ps rs) ws ns place n).1, .i (rt ps (netOf ps rs) ws ns place n).2]) (gvV (fun _ => true) hs r)) ?_ fun _ _ h => h
 refine ok_of lw24 (by simp) ?_
 unfold c24 plant sps rds Fr.enc li
 simp -implicitDefEqProofs only [rX,↓rY,rZ,ofConst,cells?,splice,↓reduceIte,Nat.reduceEqDiff,Nat.reduceAdd,reduceCtorEq,freshP,isC,cxN,args0]
 simp only [br, decide_eq_true_eq, decide_eq_false_iff_not, beq_iff_eq, bne_iff_ne, bne_eq_false_iff_eq, Int.toNat_natCast]
 have early : ∀ (h' : List Blk) (e' : Env) (b' : Nat) (q : Int), (rt ps (netOf ps rs) ws ns place n) = ([], q) → h'[3]? = some (.var [.nil]) → h'[4]? = some (.var [.i q]) → get e' 8 = .ptr 3 0 0 → get e' 9 = .ptr 4 0 0 →
   retP [] 0 [LRes.cell 8 none, LRes.cell 9 none] (fun r hs => wk (.tup [lnat (rt ps (netOf ps rs) ws ns place n).1, .i (rt ps (netOf ps rs) ws ns place n).2]) (gvV (fun _ => true) hs r)) ⟨e', h', b'⟩ := by
  intro h' e' b' q hq h3 h4 g8 g9
  rw [retP_eq]
  have b3 : blk h' 3 = .var [.nil] := by rw [blk, yA, h3]; rfl
  have b4 : blk h' 4 = .var [.i q] := by rw [blk, yA, h4]; rfl
  simp only [resP, g8, g9, qac, b3, b4]
  simp -implicitDefEqProofs only [rX,↓rY,tupV,keepP,wfV,wfL]
  refine ⟨[], ⟨by cases h' <;> simp [leH], by simp, trivial⟩, ?_⟩
  rw [hq]
  simp [gvV, gvL, wk, wkL, wkR, lnat]
 have hk : ∀ i (hi : i < ps.length), isK ps 1 i = (ps[i].kind == 1) := fun i hi => isK_lt hi
 refine ⟨fun h1 => early _ _ _ 5 (by rw [rt, if_pos (.inl h1)]) rfl rfl rfl rfl, fun h1 hm => ⟨fun h2 => early _ _ _ 5 (by rw [rt, if_pos (.inr (.inl h2))]) rfl rfl rfl rfl, fun h2 => ⟨⟨by omega, by omega⟩, by omega, fun h3 => early _ _ _ 5 (by rw [rt, if_pos (.inr (.inr (by rw [hk _ (by omega)]; simpa using h3)))]) rfl rfl rfl rfl, fun h3 => ?_⟩⟩⟩
 have h0 : ¬ (place < 0 ∨ (ps.length : Int) ≤ place ∨ isK ps 1 place.toNat = false) := by
  rw [hk _ (by omega)]
  simp [h3]; omega
 refine ⟨fun h4 => early _ _ _ 1 (by rw [rt, if_neg h0, if_pos h4]) rfl rfl rfl rfl, fun h4 => ?_⟩
 refine call_isA [plant ps rs, fr.enc, .i place] (.clo 75 [.ptr 0 0 0, .ptr 1 0 0, .ptr 2 0 0]) (.clo 75 [.ptr 5 0 0, .ptr 6 0 0, .ptr 7 0 0]) [plB ps rs, K.frB fr, .var [.i place]] [plB ps rs, K.frB fr, .var [.i place]] (ok50 ps rs fr place) (by simp [plant, sps, rds, Fr.enc, li, lendsOk, lendOk, lends, lend, wkL, wk, wkR]) rfl rfl trivial ?_
 simp -implicitDefEqProofs only [rX]
 refine rfn_go 8 rfl rfl trivial ?_
 have hc := h.chk
 obtain ⟨⟨hl1, hl2⟩, hcap, hv⟩ := chk_caps hc
 have hV := net_val hc
 have hVF := FVal hV
 have hb : nN ps ≤ 64 ∧ (netOf ps rs).length ≤ 100 := by
  have := nA4_len (ps := ps) (l := rs)
  have := h.few
  simp only [nN, netOf]; omega
 have eN : ((nN ps : Nat) : Int) = 2 + 2 * ps.length := by simp [nN]
 have hE : ((0 : Int) ≤ 0 ∧ (0 : Int) < nN ps) ∧ ((0 : Int) ≤ 1 ∧ (1 : Int) < nN ps) ∧ (0 : Int) ≠ 1 := by omega
 have he : F.endsB (nN ps) 0 1 = true := by simpa [F.endsB] using hE
 have hck : F.checkI (nN ps) (netOf ps rs) 0 1 fr.flow = 0 := check_ok he h.acc.fl (by rw [h.acc.hv]; exact h.acc.hs.1)
 have e76 := okN_post (F.ok76 (nN ps) (netOf ps rs) 0 1 fr.flow ws ns hVF hck hR) (R' := IsA _ _) fun r h' ⟨_, _, q1, q2⟩ => ⟨q1, q2⟩
 have hG := hR.good hVF hE.1 hE.2.2 (F.flow_Fv hVF hck)
 have hwl : ws.length ≤ (netOf ps rs).length := Nat.le_trans hG.cnt (F.cnt_all _ _)
 refine I0_le (h' := hpR ps rs fr place n []) ?_ ?_ ?_ ?_ ?_
 ·simp -implicitDefEqProofs only [rX,↓reduceIte,Nat.reduceEqDiff,leE,leH,leB,leV,leVs,K.frB,or_true]
 ·simp [keepP, liveP]
 ·simp -implicitDefEqProofs only [rX,liveP,wfE,wfB,wfV,wfL,K.frB]
 ·simp -implicitDefEqProofs only [rX,liveP,wfV,wfL,K.frB]
 refine itN_of pol [8] lw75 (by simp) ?_
 unfold c75 hpR
 simp -implicitDefEqProofs only [rX,↓rY,ofConst,cells?,↓reduceIte,Nat.reduceAdd,reduceCtorEq,args0]
 refine call_is (ok15 ps rs hl1 hl2 hv) (by simp [plant, sps, rds, lendsOk, lendOk, lends, lend, wkL, wk, wkR]) rfl (by simp [keepP, liveP]) ?_
 simp -implicitDefEqProofs only [rX,↓rY,ofConst,cells?,splice,↓reduceIte,Nat.reduceEqDiff,Nat.reduceAdd,reduceCtorEq,freshP,isC,net,K.frB]
 rw [nN_eq]
 by_cases hw : ws = []
 ·subst hw
  have hwr : F.wsR [] = .nil := rfl
  have hwb : F.wsB [] = .dead := rfl
  have hwt : F.wtl [] = [] := rfl
  rw [hwr, hwb, hwt] at e76
  refine call_isA [.agg [.i (nN ps), .ro 4 ((netOf ps rs).map Arc.enc)], .i 0, .i 1, li fr.flow] (.tup [.nil, .sl 5 0 ns.length, .i 0]) (.tup [.nil, .sl 15 0 ns.length, .i 0]) [.dead, .dead, .dead, .dead, .dead, .arr 1 (ns.map encI), .dead, .dead] [.dead, .dead, .dead, .dead, .dead, .arr 1 (ns.map encI), .dead, .dead] e76 (by simp [li, lendsOk, lendOk, lends, lend, wkL, wk, wkR]) rfl (by simp [renB]) (by simp [keepP, liveP]) ?_
  simp -implicitDefEqProofs only [rX,↓rY,ofConst,↓reduceIte,Nat.reduceEqDiff,Nat.reduceAdd]
  have hrt : rt ps (netOf ps rs) [] ns place n = ([], 1) := by
   rw [rt, if_neg h0, if_neg h4, findW]
   intro a b c d e
   cases e
  refine loopP_intro (fun _ : Unit => ⟨[(23, .i 0), (22, .i 0)], hpR ps rs fr place n [], 0⟩) (fun _ => True) (fun _ => 0) () trivial ?_ ?_
  ·simp -implicitDefEqProofs only [rX,↓reduceIte,Nat.reduceEqDiff,leE,leH,leB,leV,leVs,keepP,liveP,wfE,wfB,wfV,wfL,K.frB]
   exact .inl trivial
  rintro ⟨⟩ _
  unfold c75l0 hpR
  have hlt : decide ((0 : Int) < 0) = false := rfl
  simp -implicitDefEqProofs only [rX,↓rY,splice,↓reduceIte,Nat.reduceEqDiff,Nat.reduceAdd,liveP,wfE,wfB,wfV,wfL,isC,Nat.reduceLT,K.frB,hlt]
  exact early _ _ _ 1 hrt rfl rfl rfl rfl
 have hwr : F.wsR ws = .sl 4 0 ws.length := if_neg hw
 have hwb : F.wsB ws = .arv 1 (F.wcs ws) := if_neg hw
 rw [hwr, hwb] at e76
 refine call_isA [.agg [.i (nN ps), .ro 4 ((netOf ps rs).map Arc.enc)], .i 0, .i 1, li fr.flow] (.tup [.sl 4 0 ws.length, .sl 5 0 ns.length, .i 0]) (.tup [.sl 14 0 ws.length, .sl 15 0 ns.length, .i 0]) (.dead :: .dead :: .dead :: .dead :: .arv 1 (F.wcs ws) :: .arr 1 (ns.map encI) :: .dead :: .dead :: F.wtl ws) (.dead :: .dead :: .dead :: .dead :: .arv 1 (wcsB 18 ws) :: .arr 1 (ns.map encI) :: .dead :: .dead :: F.wtl ws) e76 (by simp [li, lendsOk, lendOk, lends, lend, wkL, wk, wkR]) rfl (by simp [renB, wcs_up, wtl_up]) (by simp [keepP, liveP]) ?_
 simp -implicitDefEqProofs only [rX,↓rY,ofConst,↓reduceIte,Nat.reduceEqDiff]
 refine fun hm2 => ?_
 refine loopP_intro (fun g : Nat × Int × List Blk => ⟨[(23, .i g.1), (22, .i ws.length), (21, .sl 14 0 ws.length), (7, .sl 15 0 ns.length), (5, .ptr 9 0 0), (3, .ptr 7 0 0), (1, .ptr 5 0 0), (0, .itr 8)], hpR ps rs fr place g.2.1 (hpW ps rs ws ns g.2.2), 0⟩) (fun g => g.1 ≤ ws.length ∧ (0 ≤ g.2.1 ∧ g.2.1 ≤ n ∧ findW (netOf ps rs) (2 + 2 * place) (ws.drop g.1) (ns.drop g.1) g.2.1 = findW (netOf ps rs) (2 + 2 * place) ws ns n) ∧ TOk ws g.1 g.2.2) (fun g => ws.length - g.1) (0, n, F.wtl ws) ⟨vG _, ⟨by show 0 ≤ n; omega, yU _, rfl⟩, TOk.first ws⟩ ?_ ?_
 ·simp -implicitDefEqProofs only [rX,↓reduceIte,Nat.reduceEqDiff,reduceCtorEq,leE,leH,leB,leV,leVs,keepP,liveP,wfE,wfB,wfV,wfL,yF,K.frB]
  exact ⟨⟨.inl trivial, F.leH_wtl0⟩, wcsB_wf (TOk.first ws), F.wtl_wf⟩
 rintro ⟨i, m, T⟩ ⟨hi, ⟨hm0, hmn, hf⟩, hT⟩
 simp only at hi hm0 hmn hf hT
 unfold c75l0 hpR hpW
 simp -implicitDefEqProofs only [rX,↓rY,rZ,rdK,ofConst,splice,↓reduceIte,Nat.reduceEqDiff,arrSz,reduceCtorEq,leE,leH,leB,leV,leVs,keepP,liveP,wfE,wfB,wfV,wfL,isC,K.frB,wcsB_len,wcsB_get,get18]
 simp only [br, decide_eq_true_eq, decide_eq_false_iff_not]
 refine ⟨fun hlt => ?_, fun hge => ?_⟩
 ·have hi2 : i < ws.length := by omega
  have hTi := hT.at_ i (yS _) hi2
  have hw := hG.way _ (yE hi2)
  have h0w : 0 < (ws[i]).length := uT.2 hw.ne
  have hw0 := hw.lt _ (yE h0w)
  have hin : i < ns.length := by rw [hG.len]; exact hi2
  have hnr := hG.num _ (yE hin)
  refine ⟨⟨by omega, hlt⟩, hi2, ?_⟩
  rw [hTi]
  simp -implicitDefEqProofs only [rX,↓rY,F.rows_len,F.rows_get,F.encN_0]
  have hto : ((netOf ps rs)[(ws[i])[vK 0]'h0w]'hw0).to = (F.gA (netOf ps rs) ((ws[i]).getD 0 0)).to := by
   have e1 : (ws[i]).getD 0 0 = (ws[i])[0] := by rw [yA, yD h0w, yO]
   rw [e1, F.getD_nil (a := ⟨0, 0, 0, 0⟩) hw0]
   rfl
  have hdw : ws.drop i = ws[i] :: ws.drop (i + 1) := uN hi2
  have hdn : ns.drop i = ns[i] :: ns.drop (i + 1) := uN hin
  rw [hdw, hdn, findW] at hf
  refine ⟨⟨by omega, by omega⟩, h0w, ⟨by omega, by have : (ws[i])[vK 0]'h0w = (ws[i])[0] := rfl; omega⟩, hw0, ⟨by simp only [lo]; omega, by simp only [Fx.hi]; omega⟩, ⟨by simp only [lo]; omega, by simp only [Fx.hi]; omega⟩, fun htg => ?_, fun htg => ?_⟩
  ·rw [hto] at htg
   have htg : ¬ (F.gA (netOf ps rs) ((ws[i]).getD 0 0)).to = 2 + 2 * place := bne_iff_ne.1 htg
   rw [if_neg htg] at hf
   refine ⟨by simp only [lo, Fx.hi]; omega, (i + 1, m, T), ⟨⟨by show i + 1 ≤ _; omega, ⟨hm0, hmn, hf⟩, hT.next⟩, by show ws.length - (i + 1) < _; omega⟩, by show (i : Int) + 1 = ((i + 1 : Nat) : Int); omega, ⟨rfl, .inl trivial, hT.le0⟩, wcsB_wf hT, F.arr_wf hT.arr⟩
  ·rw [hto] at htg
   have htg : (F.gA (netOf ps rs) ((ws[i]).getD 0 0)).to = 2 + 2 * place := bne_eq_false_iff_eq.1 htg
   rw [if_pos htg] at hf
   refine ⟨⟨by omega, by omega⟩, hin, ?_⟩
   have hwn : (ws[i]).length ≤ 4096 := by
    have := F.nodup_le (l := (ws[i]).map Int.ofNat) (netOf ps rs).length (by
     rw [yX, vT]
     exact uJ (fun h e => h (uK e)) (yX.1 (F.nodup_of_map hw.nod))) (by
     intro v hv
     rw [yI] at hv
     obtain ⟨j, hj, rfl⟩ := hv
     have := hw.lt j hj
     simp only [uL]; omega)
    rw [yP] at this
    omega
   refine call_isM (fun z : List Nat => True) [5, i + 18] [] [] [.sl 1 0 (ws[i]).length, .clo 77 [.ptr 0 0 0]] (fun _ => .sl 1 0 (keptW ps (ws[i])).length) [plB ps rs, .arr 1 ((ws[i]).map nE)] (fun z => [plB ps rs, .arr 1 ((keptW ps (ws[i]) ++ z).map nE)]) (ok53w ps rs (ws[i]) hwn) ⟨by simp, ?_⟩ ⟨rfl, by simp⟩ ?_ ?_ fun z _ => ⟨?_, ?_⟩
   ·intro k hk
    rcases (by simpa using hk : k = 5 ∨ k = i + 18) with rfl | rfl
    ·exact ⟨by simp, by simp⟩
    ·exact ⟨by simp [hT.len]; omega, by simp⟩
   ·simp only [yY, vO, blk, yA, get18, hTi]; rfl
   ·simp [lendsOk, lendOk, lends, lend, wkL, wk, pos]
   ·simp only [setAll, yY, vO, List.set_cons_succ, List.set_cons_zero, keepP, liveP]
    simp [renB, rens, ren, killB, killE, set18]
   have hb1 : back [5, i + 18] (T.length + 18) 1 = some (i + 18) := rfl
   have hk0 : (wcsB 18 ws).map (kills []) = wcsB 18 ws := wcsB_kill (by simp)
   simp -implicitDefEqProofs only [rX,↓rY,↓reduceIte,Nat.reduceEqDiff,killE,killB,kill,kills,St.kill,setAll,renB,rens,ren,set18,killB_nil,hb1,hk0]
   have hT2 := hT.put ((keptW ps (ws[i]) ++ z).map nE)
   have hTi2 : (T.set i (.arr 1 ((keptW ps (ws[i]) ++ z).map nE)))[i]? = some (.arr 1 ((keptW ps (ws[i]) ++ z).map nE)) := List.getElem?_set_self (by rw [hT.len]; exact hi2)
   have hTl : T.length = (T.set i (.arr 1 ((keptW ps (ws[i]) ++ z).map nE))).length := by simp
   generalize T.set i (.arr 1 ((keptW ps (ws[i]) ++ z).map nE)) = T' at *
   rw [hTl]
   refine ⟨rfl, yR_go (T'.length + 18) (by simp) rfl rfl ?_⟩
   unfold c24a0 c24r0
   simp -implicitDefEqProofs only [rX,↓rY,ofConst,cells?,splice,↓reduceIte,Nat.reduceEqDiff,reduceCtorEq,leE,leH,leB,leV,leVs,keepP,liveP,wfE,wfB,wfV,wfL,isC,setPs,get18,set18,F.app_get0,F.app_set0]
   simp only [br, decide_eq_true_eq, decide_eq_false_iff_not]
   have hil : i < T'.length := by rw [hT2.len]; exact hi2
   refine ⟨fun hfd => ?_, fun hnf => ?_⟩
   ·rw [if_pos hfd] at hf
    have hrt : rt ps (netOf ps rs) ws ns place n = (keptW ps (ws[i]), 0) := by
     rw [rt, if_neg h0, if_neg h4, ← hf]
    have hTa : ∀ L : List Blk, (T' ++ L)[i]? = some (.arr 1 ((keptW ps (ws[i]) ++ z).map nE)) := fun L => by
     rw [vD hil]; exact hTi2
    refine ⟨⟨by rw [hTa]; trivial, wcsB_wfl hT2, arr_wfl (by simp [wfB]) hT2.arr⟩, ?_⟩
    simp -implicitDefEqProofs only [rX,↓rY,↓reduceIte,Nat.reduceEqDiff,resP,tupV,keepP,liveP,wfV,wfL,retP_eq]
    refine ⟨_, ⟨leH_rf _, by simp, ?_⟩, ?_⟩
    ·refine ⟨by rw [get18, hTa]; trivial, ?_⟩
     simp -implicitDefEqProofs only [rX,liveP,wfB,wfV,wfL,get18,hTa,eq_true (wcsB_wfl hT2),eq_true (arr_wfl (L := [.dead]) (by simp [wfB]) hT2.arr)]
    ·have hbk : ∀ a b c d e f g h i' j k l m n o p q r, blk (a :: b :: c :: d :: e :: f :: g :: h :: i' :: j :: k :: l :: m :: n :: o :: p :: q :: r :: (T' ++ [.dead])) (i + 18) = .arr 1 ((keptW ps (ws[i]) ++ z).map nE) := by
      intro a b c d e f g h i' j k l m n o p q r
      rw [blk, yA, get18, hTa]; rfl
     simp only [gvV, gvL, hbk, hrt]
     simp [wk, wkL, wkR, lnat]
     done
   ·rw [if_neg hnf] at hf
    refine ⟨by simp only [lo, Fx.hi]; omega, by simp only [lo, Fx.hi]; omega, (i + 1, m - ns[i], T'), ⟨⟨by show i + 1 ≤ _; omega, ⟨by show 0 ≤ m - ns[i]; omega, by show m - ns[i] ≤ n; omega, hf⟩, hT2⟩, by show ws.length - (i + 1) < _; omega⟩, by show (i : Int) + 1 = ((i + 1 : Nat) : Int); omega, ⟨rfl, .inl trivial, hT2.le⟩, wcsB_wf hT2, F.arr_wf hT2.arr⟩
 ·have hie : i = ws.length := by omega
  have hrt : rt ps (netOf ps rs) ws ns place n = ([], 1) := by
   rw [hie, List.drop_length, findW] at hf
   ·rw [rt, if_neg h0, if_neg h4, ← hf]
   ·intro a b c d e
    cases e
  exact ⟨⟨wcsB_wf hT, F.arr_wf hT.arr⟩, early _ _ _ 1 hrt rfl rfl rfl rfl⟩
end
set_option maxRecDepth 20000
def sumAt (arcs : List Arc) (tgt : Int) : List (List Nat) → List Int → Int
 | w :: ws, m :: ms => (if (F.gA arcs (w.getD 0 0)).to = tgt then m else 0) + sumAt arcs tgt ws ms
 | _, _ => 0
theorem sumI_term {f : Nat → Int} {k : Nat} : ∀ {n : Nat}, k < n → (∀ i, i < n → 0 ≤ f i) → f k ≤ sumI f n
 | 0, h, _ => by omega
 | n + 1, h, h0 => by
  simp only [sumI]
  have h1 := sumI_nn (f := f) (n := n) fun i hi => h0 i (by omega)
  have h2 := h0 n (by omega)
  by_cases e : k = n
  ·subst e; omega
  ·have := sumI_term (f := f) (k := k) (n := n) (by omega) fun i hi => h0 i (by omega)
   omega
section
variable {ps : List Spot} {rs : List Road} {fr : Fr}
theorem src_arc (hv : RInv ps rs rs.length) {j : Nat} (hj : j < (netOf ps rs).length) (h0 : (F.gA (netOf ps rs) j).from_ = 0) :
  ∃ k, k < (ofN ps 1 ps.length).length ∧ j = ps.length + k ∧ (F.gA (netOf ps rs) j).to = 2 + 2 * ((ofN ps 1 ps.length).getD k 0 : Nat) := by
 have l3 : (nA3 ps (ofN ps 3 ps.length)).length = ps.length + (ofN ps 1 ps.length).length + (ofN ps 3 ps.length).length := by
  simp only [nA3, nA2, nA1, yH, yP, yQ]
 have l2 : (nA2 ps (ofN ps 1 ps.length)).length = ps.length + (ofN ps 1 ps.length).length := by
  simp only [nA2, nA1, yH, yP, yQ]
 have hl := netOf_len (ps := ps) (rs := rs)
 have hg : F.gA (netOf ps rs) j = (netOf ps rs).getD j a0 := rfl
 rw [hg] at h0 ⊢
 by_cases h1 : j < ps.length
 ·exfalso
  rw [netOf, nA4, getD_l (by omega), nA3, getD_l (by omega), nA2, getD_l (by rw [nA1_len]; omega), nA1, getD_map 0 (by simpa using h1)] at h0
  simp only [aP] at h0; omega
 by_cases h2 : j < ps.length + (ofN ps 1 ps.length).length
 ·refine ⟨j - ps.length, by omega, by omega, ?_⟩
  rw [netOf, nA4, getD_l (by omega), nA3, getD_l (by omega), nA2, show j = ps.length + (j - ps.length) by omega, getD_r nA1_len, getD_map 0 (by omega)]
  simp only [aS, show ps.length + (j - ps.length) - ps.length = j - ps.length by omega]
 by_cases h3 : j < ps.length + (ofN ps 1 ps.length).length + (ofN ps 3 ps.length).length
 ·exfalso
  rw [netOf, nA4, getD_l (by omega), nA3, show j = ps.length + (ofN ps 1 ps.length).length + (j - (ps.length + (ofN ps 1 ps.length).length)) by omega, getD_r l2, getD_map 0 (by omega)] at h0
  simp only [aO] at h0; omega
 ·exfalso
  rw [netOf, nA4, show j = ps.length + (ofN ps 1 ps.length).length + (ofN ps 3 ps.length).length + (j - (ps.length + (ofN ps 1 ps.length).length + (ofN ps 3 ps.length).length)) by omega, getD_r l3, getD_map default (by omega)] at h0
  obtain ⟨q1, q2, _⟩ := hv.h (j - (ps.length + (ofN ps 1 ps.length).length + (ofN ps 3 ps.length).length)) (by omega) (by omega)
  rw [yA, yD (by omega), yO] at h0
  simp only [aR] at h0; omega
theorem sumAt_le (hv : RInv ps rs rs.length) (p : Nat) : ∀ {ws : List (List Nat)} {ns : List Int}, (∀ w ∈ ws, F.Way (netOf ps rs) 0 1 w) → (∀ m ∈ ns, 0 < m) →
  sumAt (netOf ps rs) (2 + 2 * (p : Int)) ws ns ≤ sumI (fun k => if (ofN ps 1 ps.length).getD k 0 = p then F.useN ws ns (ps.length + k) else 0) (ofN ps 1 ps.length).length
 | [], ns, _, _ => by
  simp only [sumAt]
  refine sumI_nn fun i _ => ?_
  split <;> simp [F.useN]
 | w :: ws, [], _, _ => by
  simp only [sumAt]
  refine sumI_nn fun i _ => ?_
  split <;> simp [F.useN]
 | w :: ws, m :: ms, hw, hn => by
  have ih := sumAt_le hv p (ws := ws) (ns := ms) (fun x hx => hw x (yC _ hx)) fun x hx => hn x (yC _ hx)
  have hm := hn m yB
  have hW := hw w yB
  have e : sumI (fun k => if (ofN ps 1 ps.length).getD k 0 = p then F.useN (w :: ws) (m :: ms) (ps.length + k) else 0) (ofN ps 1 ps.length).length =
    sumI (fun k => if (ofN ps 1 ps.length).getD k 0 = p then (if ps.length + k ∈ w then m else 0) else 0) (ofN ps 1 ps.length).length + sumI (fun k => if (ofN ps 1 ps.length).getD k 0 = p then F.useN ws ms (ps.length + k) else 0) (ofN ps 1 ps.length).length := by
   rw [← sumI_plus]
   refine sumI_congr fun i _ => ?_
   simp only [F.useN]
   split <;> simp
  rw [e]
  simp only [sumAt]
  by_cases ht : (F.gA (netOf ps rs) (w.getD 0 0)).to = 2 + 2 * (p : Int)
  ·rw [if_pos ht]
   cases w with
   | nil => exact absurd rfl hW.ne
   | cons j w =>
    have h0 : (F.gA (netOf ps rs) j).from_ = 0 := hW.walk.1
    obtain ⟨k, hk, hj, hto⟩ := src_arc hv (hW.lt j yB) h0
    have ht : (F.gA (netOf ps rs) j).to = 2 + 2 * (p : Int) := ht
    have hkp : (ofN ps 1 ps.length).getD k 0 = p := by omega
    have := sumI_term (f := fun k => if (ofN ps 1 ps.length).getD k 0 = p then (if ps.length + k ∈ j :: w then m else 0) else 0) hk (fun i _ => by split <;> (try split) <;> omega)
    simp only [hkp, if_true] at this
    rw [if_pos (by rw [hj]; exact yB)] at this
    omega
  ·rw [if_neg ht]
   have := sumI_nn (f := fun k => if (ofN ps 1 ps.length).getD k 0 = p then (if ps.length + k ∈ w then m else 0) else 0) (n := (ofN ps 1 ps.length).length) (fun i _ => by split <;> (try split) <;> omega)
   omega
theorem IsPlan.at_le (h : IsPlan ps rs fr) {p : Nat} (hp : p < ps.length) (hk : isK ps 1 p = true) {ws : List (List Nat)} {ns : List Int} (hG : F.Good (netOf ps rs) 0 1 fr.flow ws ns) : sumAt (netOf ps rs) (2 + 2 * (p : Int)) ws ns ≤ fr.fl p := by
 have h1 := sumAt_le (chk_caps h.chk).2.2 p hG.way (fun m hm => (hG.num m hm).1)
 have h2 := h.e_in hp
 rw [h.in_0 hk] at h2
 refine Int.le_trans h1 ?_
 rw [h2, uM, sS]
 refine sumI_le fun k _ => ?_
 split
 ·exact hG.use _
 ·exact yU _
end
set_option maxRecDepth 20000
section
variable {ps : List Spot} {rs : List Road} {fr : Fr}
def rdB (ps : List Spot) : Nat := ps.length + (ofN ps 1 ps.length).length + (ofN ps 3 ps.length).length
theorem arc_cases {j : Nat} (hj : j < (netOf ps rs).length) :
  (j < ps.length ∧ F.gA (netOf ps rs) j = aP ps j) ∨
  (∃ k, k < (ofN ps 1 ps.length).length ∧ j = ps.length + k ∧ F.gA (netOf ps rs) j = aS ps ((ofN ps 1 ps.length).getD k 0)) ∨
  (∃ k, k < (ofN ps 3 ps.length).length ∧ j = ps.length + (ofN ps 1 ps.length).length + k ∧ F.gA (netOf ps rs) j = aO ps ((ofN ps 3 ps.length).getD k 0)) ∨
  (∃ r, ∃ h : r < rs.length, j = rdB ps + r ∧ F.gA (netOf ps rs) j = aR rs[r]) := by
 have l3 : (nA3 ps (ofN ps 3 ps.length)).length = ps.length + (ofN ps 1 ps.length).length + (ofN ps 3 ps.length).length := by
  simp only [nA3, nA2, nA1, yH, yP, yQ]
 have l2 : (nA2 ps (ofN ps 1 ps.length)).length = ps.length + (ofN ps 1 ps.length).length := by
  simp only [nA2, nA1, yH, yP, yQ]
 have hl := netOf_len (ps := ps) (rs := rs)
 have hg : F.gA (netOf ps rs) j = (netOf ps rs).getD j a0 := rfl
 rw [hg]
 by_cases h1 : j < ps.length
 ·refine .inl ⟨h1, ?_⟩
  rw [netOf, nA4, getD_l (by omega), nA3, getD_l (by omega), nA2, getD_l (by rw [nA1_len]; omega), nA1, getD_map 0 (by simpa using h1)]
  rw [yA, uP h1, yO]
 by_cases h2 : j < ps.length + (ofN ps 1 ps.length).length
 ·refine .inr (.inl ⟨j - ps.length, by omega, by omega, ?_⟩)
  rw [netOf, nA4, getD_l (by omega), nA3, getD_l (by omega), nA2, show j = ps.length + (j - ps.length) by omega, getD_r nA1_len, getD_map 0 (by omega)]
  simp only [show ps.length + (j - ps.length) - ps.length = j - ps.length by omega]
 by_cases h3 : j < ps.length + (ofN ps 1 ps.length).length + (ofN ps 3 ps.length).length
 ·refine .inr (.inr (.inl ⟨j - (ps.length + (ofN ps 1 ps.length).length), by omega, by omega, ?_⟩))
  rw [netOf, nA4, getD_l (by omega), nA3]
  conv => lhs; rw [show j = ps.length + (ofN ps 1 ps.length).length + (j - (ps.length + (ofN ps 1 ps.length).length)) by omega]
  rw [getD_r l2, getD_map 0 (by omega)]
 ·refine .inr (.inr (.inr ⟨j - rdB ps, by unfold rdB; omega, by unfold rdB; omega, ?_⟩))
  rw [netOf, nA4]
  conv => lhs; rw [show j = ps.length + (ofN ps 1 ps.length).length + (ofN ps 3 ps.length).length + (j - rdB ps) by unfold rdB; omega]
  rw [getD_r l3, getD_map default (by unfold rdB; omega), getD_rs (by unfold rdB; omega)]
theorem in_arc (hv : RInv ps rs rs.length) {j p : Nat} (hj : j < (netOf ps rs).length) (hp : p < ps.length) (h : (F.gA (netOf ps rs) j).from_ = 2 + 2 * (p : Int)) : j = p ∧ (F.gA (netOf ps rs) j).to = 3 + 2 * (p : Int) := by
 rcases arc_cases hj with ⟨h1, e⟩ | ⟨k, h1, h2, e⟩ | ⟨k, h1, h2, e⟩ | ⟨r, h1, h2, e⟩ <;> rw [e] at h ⊢
 ·simp only [aP] at h ⊢; omega
 ·simp only [aS] at h; omega
 ·simp only [aO] at h; omega
 ·obtain ⟨q1, q2, _⟩ := hv.h r h1 h1
  simp only [aR] at h; omega
theorem out_arc (hv : RInv ps rs rs.length) {j p : Nat} (hj : j < (netOf ps rs).length) (h : (F.gA (netOf ps rs) j).from_ = 3 + 2 * (p : Int)) :
  (ps.length ≤ j ∧ (F.gA (netOf ps rs) j).to = 1 ∧ isK ps 3 p = true) ∨
  ∃ r, ∃ hr : r < rs.length, j = rdB ps + r ∧ rs[r].from_ = p ∧ (F.gA (netOf ps rs) j).to = 2 + 2 * rs[r].to := by
 rcases arc_cases hj with ⟨h1, e⟩ | ⟨k, h1, h2, e⟩ | ⟨k, h1, h2, e⟩ | ⟨r, h1, h2, e⟩ <;> rw [e] at h ⊢
 ·simp only [aP] at h; omega
 ·simp only [aS] at h; omega
 ·left
  simp only [aO] at h ⊢
  have := (ofN_getD h1).2
  rw [show (ofN ps 3 ps.length).getD k 0 = p by omega] at this
  exact ⟨by omega, trivial, this⟩
 ·right
  simp only [aR] at h ⊢
  exact ⟨r, h1, h2, by omega, rfl⟩
inductive PathP (ps : List Spot) (rs : List Road) : Nat → List Nat → List Nat → Prop where
 | last {p o : Nat} (hp : p < ps.length) (ho : ps.length ≤ o) (hk : isK ps 3 p = true) : PathP ps rs p [p] [p, o]
 | road {p q r : Nat} {K w : List Nat} (hp : p < ps.length) (hr : r < rs.length) (h1 : rs[r].from_ = p) (h2 : rs[r].to = q) (h : PathP ps rs q K w) : PathP ps rs p (p :: K) (p :: (rdB ps + r) :: w)
theorem path_of (hv : RInv ps rs rs.length) : ∀ (n : Nat) (w : List Nat) (p : Nat), w.length ≤ n → p < ps.length → F.isW (netOf ps rs) (2 + 2 * (p : Int)) w 1 → (∀ j ∈ w, j < (netOf ps rs).length) → ∃ K, PathP ps rs p K w
 | _, [], p, _, _, h, _ => by
  have h : (2 + 2 * (p : Int)) = 1 := h
  omega
 | n + 1, j :: w, p, hn, hp, h, hl => by
  obtain ⟨h1, h2⟩ := h
  obtain ⟨rfl, h3⟩ := in_arc hv (hl j yB) hp h1
  rw [h3] at h2
  cases w with
  | nil =>
   have h2 : (3 + 2 * (j : Int)) = 1 := h2
   omega
  | cons i w =>
   obtain ⟨h4, h5⟩ := h2
   have hi := hl i (yC _ yB)
   rcases out_arc hv hi h4 with ⟨g1, g2, g3⟩ | ⟨r, hr, g1, g2, g3⟩
   ·rw [g2] at h5
    cases w with
    | nil => exact ⟨[j], .last hp g1 g3⟩
    | cons a w =>
     exfalso
     obtain ⟨h6, _⟩ := h5
     have ha := hl a (yC _ (yC _ yB))
     rcases arc_cases ha with ⟨_, e⟩ | ⟨k, _, _, e⟩ | ⟨k, _, _, e⟩ | ⟨r, q, _, e⟩ <;> rw [e] at h6
     ·simp only [aP] at h6; omega
     ·simp only [aS] at h6; omega
     ·simp only [aO] at h6; omega
     ·obtain ⟨q1, q2, _⟩ := hv.h r q q
      simp only [aR] at h6; omega
   ·rw [g3] at h5
    obtain ⟨q1, q2, _⟩ := hv.h r hr hr
    have hq : rs[r].to = ((rs[r].to.toNat : Nat) : Int) := by omega
    rw [hq] at h5
    obtain ⟨K, hK⟩ := path_of hv n w rs[r].to.toNat (by simp only [yW] at hn; omega) (by omega) h5 (fun x hx => hl x (yC _ (yC _ hx)))
    subst g1
    exact ⟨j :: K, .road hp hr g2 hq hK⟩
theorem kept_in {x : Nat} {w : List Nat} (h : x < ps.length) : keptW ps (x :: w) = x :: keptW ps w := by
 have : offB ps x = false := decide_eq_false (by omega)
 simp [keptW, this]
theorem kept_out {x : Nat} {w : List Nat} (h : ps.length ≤ x) : keptW ps (x :: w) = keptW ps w := by
 have : offB ps x = true := decide_eq_true h
 simp [keptW, this]
theorem PathP.kept {p : Nat} {K w : List Nat} (h : PathP ps rs p K w) : keptW ps w = K := by
 induction h with
 | last hp ho hk => rw [kept_in hp, kept_out ho]; rfl
 | road hp hr h1 h2 _ ih => rw [kept_in hp, kept_out (by unfold rdB; omega), ih]
theorem PathP.head {p : Nat} {K w : List Nat} (h : PathP ps rs p K w) : ∃ K', K = p :: K' := by
 cases h with
 | last => exact ⟨_, rfl⟩
 | road => exact ⟨_, rfl⟩
theorem PathP.lt {p : Nat} {K w : List Nat} (h : PathP ps rs p K w) : ∀ q ∈ K, q < ps.length := by
 induction h with
 | last hp => intro q hq; simp at hq; omega
 | road hp hr h1 h2 _ ih =>
  intro q hq
  rcases vN.1 hq with rfl | hq
  ·exact hp
  ·exact ih q hq
theorem PathP.org {p : Nat} {K w : List Nat} (h : PathP ps rs p K w) : ∃ q, K.getLast? = some q ∧ isK ps 3 q = true := by
 induction h with
 | last _ _ hk => exact ⟨_, rfl, hk⟩
 | @road p q r K w hp hr h1 h2 hK ih =>
  obtain ⟨x, g1, g2⟩ := ih
  refine ⟨x, ?_, g2⟩
  rw [List.getLast?_cons, g1]; rfl
theorem PathP.two {p : Nat} {K w : List Nat} (h : PathP ps rs p K w) (hk : isK ps 3 p = false) : 2 ≤ K.length := by
 cases h with
 | last _ _ h => rw [hk] at h; cases h
 | road _ _ _ _ h =>
  obtain ⟨K', rfl⟩ := h.head
  simp
def cntP (a b : Nat) : List Nat → Int
 | x :: y :: r => (if x = a ∧ y = b then 1 else 0) + cntP a b (y :: r)
 | _ => 0
def rdUse (ps : List Spot) (rs : List Road) (a b : Nat) (w : List Nat) : Int := sumI (fun r => if (rs.getD r default).from_ = a ∧ (rs.getD r default).to = b ∧ rdB ps + r ∈ w then 1 else 0) rs.length
theorem PathP.pairs {p a b : Nat} {K w : List Nat} (h : PathP ps rs p K w) : w.Nodup → cntP a b K ≤ rdUse ps rs a b w := by
 induction h with
 | last => intro _; simp only [cntP]; exact sumI_nn fun i _ => by split <;> omega
 | @road p q r K w hp hr h1 h2 hK ih =>
  intro hnd
  obtain ⟨K', rfl⟩ := hK.head
  have hnd2 := (vM.1 hnd).2
  have hnd3 := vM.1 hnd2
  have ih := ih hnd3.2
  simp only [cntP]
  by_cases e : p = a ∧ q = b
  ·obtain ⟨rfl, rfl⟩ := e
   rw [if_pos ⟨rfl, rfl⟩]
   have hs : rdUse ps rs p q w + 1 ≤ rdUse ps rs p q (p :: (rdB ps + r) :: w) := by
    unfold rdUse
    have h4 := sumI_one (f := fun _ => (1 : Int)) hr
    rw [← h4, ← sumI_plus]
    refine sumI_le fun i hi => ?_
    by_cases ei : i = r
    ·subst ei
     have : ¬ (rdB ps + i ∈ w) := hnd3.1
     have e5 := getD_rs hr
     rw [if_pos rfl, if_neg (fun h => this h.2.2), if_pos ⟨by rw [e5]; exact h1, by rw [e5]; exact h2, yC _ yB⟩]
     omega
    ·simp only [if_neg ei]
     split
     ·rename_i h5
      rw [if_pos ⟨h5.1, h5.2.1, yC _ (yC _ h5.2.2)⟩]
      omega
     ·split <;> omega
   omega
  ·rw [if_neg e]
   have hs : rdUse ps rs a b w ≤ rdUse ps rs a b (p :: (rdB ps + r) :: w) := by
    refine sumI_le fun i hi => ?_
    split
    ·rename_i h5
     rw [if_pos ⟨h5.1, h5.2.1, yC _ (yC _ h5.2.2)⟩]
     exact yU _
    ·split <;> omega
   omega
end
set_option maxRecDepth 20000
section
variable {ps : List Spot} {rs : List Road} {fr : Fr} {arcs : List Arc}
def wAt (arcs : List Arc) (tgt : Int) (G : List Nat → Int) : List (List Nat) → List Int → Int
 | w :: ws, m :: ms => (if (F.gA arcs (w.getD 0 0)).to = tgt then m * G w else 0) + wAt arcs tgt G ws ms
 | _, _ => 0
def wAll (G : List Nat → Int) : List (List Nat) → List Int → Int
 | w :: ws, m :: ms => m * G w + wAll G ws ms
 | _, _ => 0
def optG (G : List Nat → Int) : Option (List Nat) → Int
 | some w => G w
 | none => 0
theorem sumI_const {c : Int} : ∀ {n : Nat}, sumI (fun _ => c) n = n * c
 | 0 => by simp [sumI]
 | n + 1 => by
  rw [sumI, sumI_const (n := n), show ((n + 1 : Nat) : Int) = (n : Int) + 1 from rfl, Int.add_mul, Int.one_mul]
theorem sumAt_n {tgt : Int} : ∀ {ws : List (List Nat)} {ns : List Int}, (∀ m ∈ ns, 0 < m) → 0 ≤ sumAt arcs tgt ws ns
 | [], _, _ => by simp [sumAt]
 | _ :: _, [], _ => by simp [sumAt]
 | w :: ws, m :: ms, h => by
  have h1 := h m yB
  have h2 := sumAt_n (tgt := tgt) (ws := ws) (ns := ms) fun x hx => h x (yC _ hx)
  simp only [sumAt]
  split <;> omega
theorem sum_find {tgt : Int} {G : List Nat → Int} : ∀ {ws : List (List Nat)} {ns : List Int}, (∀ m ∈ ns, 0 < m) → sumI (fun n : Nat => optG G (findW arcs tgt ws ns n)) (sumAt arcs tgt ws ns).toNat = wAt arcs tgt G ws ns
 | [], ns, _ => by simp [sumAt, wAt, sumI]
 | _ :: _, [], _ => by simp [sumAt, wAt, sumI]
 | w :: ws, m :: ms, h => by
  have hm := h m yB
  have h2 : ∀ x ∈ ms, 0 < x := fun x hx => h x (yC _ hx)
  have ih := sum_find (tgt := tgt) (G := G) (ws := ws) (ns := ms) h2
  have hs := sumAt_n (arcs := arcs) (tgt := tgt) (ws := ws) h2
  simp only [sumAt, wAt]
  by_cases e : (F.gA arcs (w.getD 0 0)).to = tgt
  ·rw [if_pos e, if_pos e]
   have hn : (m + sumAt arcs tgt ws ms).toNat = m.toNat + (sumAt arcs tgt ws ms).toNat := by omega
   rw [hn, sumI_add, ← ih]
   congr 1
   ·rw [sumI_congr (g := fun _ => G w) (fun i hi => by simp only [findW, if_pos e]; rw [if_pos (by omega)]; rfl), sumI_const, vJ (by omega)]
   ·refine sumI_congr fun i hi => ?_
    simp only [findW, if_pos e]
    rw [if_neg (by omega)]
    congr 2
    omega
  ·rw [if_neg e, if_neg e, uO, uO, ← ih]
   refine sumI_congr fun i hi => ?_
   simp only [findW, if_neg e]
theorem wAt_all {G : List Nat → Int} (hG : ∀ w, 0 ≤ G w) (P : Nat → Bool) : ∀ {ws : List (List Nat)} {ns : List Int}, (∀ m ∈ ns, 0 < m) → ∀ n : Nat, sumI (fun i => if P i then wAt arcs (2 + 2 * (i : Int)) G ws ns else 0) n ≤ wAll G ws ns
 | [], ns, _, n => by
  simp only [wAt, wAll]
  rw [sumI_zero (fun i _ => by split <;> rfl)]; exact yU _
 | _ :: _, [], _, n => by
  simp only [wAt, wAll]
  rw [sumI_zero (fun i _ => by split <;> rfl)]; exact yU _
 | w :: ws, m :: ms, h, n => by
  have hm := h m yB
  have ih := wAt_all hG P (ws := ws) (ns := ms) (fun x hx => h x (yC _ hx)) n
  have hmg : 0 ≤ m * G w := Int.mul_nonneg (by omega) (hG w)
  simp only [wAll]
  have e : sumI (fun i => if P i then wAt arcs (2 + 2 * (i : Int)) G (w :: ws) (m :: ms) else 0) n =
    sumI (fun i => if P i then (if (F.gA arcs (w.getD 0 0)).to = 2 + 2 * (i : Int) then m * G w else 0) else 0) n + sumI (fun i => if P i then wAt arcs (2 + 2 * (i : Int)) G ws ms else 0) n := by
   rw [← sumI_plus]
   refine sumI_congr fun i _ => ?_
   simp only [wAt]
   split <;> simp
  rw [e]
  have h1 : sumI (fun i => if P i then (if (F.gA arcs (w.getD 0 0)).to = 2 + 2 * (i : Int) then m * G w else 0) else 0) n ≤ m * G w := by
   clear ih e
   induction n with
   | zero => simpa [sumI] using hmg
   | succ n ih2 =>
    simp only [sumI]
    by_cases e1 : (F.gA arcs (w.getD 0 0)).to = 2 + 2 * (n : Int)
    ·have : sumI (fun i => if P i then (if (F.gA arcs (w.getD 0 0)).to = 2 + 2 * (i : Int) then m * G w else 0) else 0) n = 0 := by
      refine sumI_zero fun i hi => ?_
      rw [if_neg (c := (F.gA arcs (w.getD 0 0)).to = 2 + 2 * (i : Int)) (by omega)]
      split <;> rfl
     rw [this]
     split <;> (try split) <;> omega
    ·rw [if_neg e1]
     split <;> omega
  omega
theorem wAll_mono {G H : List Nat → Int} : ∀ {ws : List (List Nat)} {ns : List Int}, (∀ w ∈ ws, G w ≤ H w) → (∀ m ∈ ns, 0 < m) → wAll G ws ns ≤ wAll H ws ns
 | [], _, _, _ => by simp [wAll]
 | _ :: _, [], _, _ => by simp [wAll]
 | w :: ws, m :: ms, h, hm => by
  have h1 := wAll_mono (ws := ws) (ns := ms) (fun x hx => h x (yC _ hx)) fun x hx => hm x (yC _ hx)
  have h2 := Int.mul_le_mul_of_nonneg_left (h w yB) (Int.le_of_lt (hm m yB))
  simp only [wAll]; omega
theorem wAll_use {q : Nat} : ∀ {ws : List (List Nat)} {ns : List Int}, wAll (fun w => if q ∈ w then 1 else 0) ws ns = F.useN ws ns q
 | [], _ => by simp [wAll, F.useN]
 | _ :: _, [] => by simp [wAll, F.useN]
 | w :: ws, m :: ms => by
  have := wAll_use (q := q) (ws := ws) (ns := ms)
  simp only [wAll, F.useN, this]
  split <;> simp
theorem wAll_sum {g : Nat → List Nat → Int} {n : Nat} : ∀ {ws : List (List Nat)} {ns : List Int}, wAll (fun w => sumI (fun r => g r w) n) ws ns = sumI (fun r => wAll (g r) ws ns) n
 | [], _ => by simp only [wAll]; exact (sumI_zero fun _ _ => rfl).symm
 | _ :: _, [] => by simp only [wAll]; exact (sumI_zero fun _ _ => rfl).symm
 | w :: ws, m :: ms => by
  have ih := wAll_sum (g := g) (n := n) (ws := ws) (ns := ms)
  simp only [wAll, ih]
  rw [sumI_plus]
  congr 1
  induction n with
  | zero => simp [sumI]
  | succ n ih2 =>
   simp only [sumI, Int.mul_add]
   rw [← ih2 (wAll_sum (g := g) (n := n) (ws := ws) (ns := ms))]
end
set_option maxRecDepth 20000
abbrev rdT (ps : List Spot) (rs : List Road) (k : Nat) : Spot := ps.getD (rs.getD k default).to.toNat default
set_option maxRecDepth 20000
set_option maxHeartbeats 1000000
abbrev keyG (x : Allot) : Value := .agg #[.int .i64 x.gate, .int .i64 x.origin]
def entsG : List Allot → Nat → List (Value × V × Nat)
 | [], _ => []
 | x :: l, i => (keyG x, .i i, i) :: entsG l (i + 1)
variable {ps : List Spot} {rs : List Road} {fr : Fr}
def hA (ps : List Spot) (rs : List Road) (fr : Fr) (L : List Allot) : List Blk :=
 [.var [.ro 3 (ps.map Spot.enc), .ro 4 (rs.map Road.enc)], .var [.i fr.sent, .i fr.cost, .ro 1 (fr.flow.map encI), .ro 1 (fr.price.map encI), .ro 1 (fr.cut.map encI)], .map (entsG L 0) L.length, .arr 3 (L.map Allot.enc)]
set_option maxRecDepth 20000
end Go.Fx.P
