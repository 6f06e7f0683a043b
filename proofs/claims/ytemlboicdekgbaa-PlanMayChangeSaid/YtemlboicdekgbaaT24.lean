import Derived.Test.YtemlboicdekgbaaFxRunSound
import Derived.Test.YtemlboicdekgbaaPSan
import Derived.Test.YtemlboicdekgbaaFxRunDefs
set_option linter.unusedVariables false
set_option linter.unusedSimpArgs false
set_option linter.unusedSectionVars false
namespace Go.Fx.P
open Go Go.Fx Go.Proofs
set_option maxRecDepth 20000
theorem san10 : Ok 10 [] (Is (.b true)) := san
theorem s10 {cx : Cx} {e : Env} {h : List Blk} {b : Nat} {K : V → St → Prop} : cx.C = C0 Try.prog → cx.fx = [] → K (.b true) ⟨e, h, b⟩ → callP cx 10 [] ⟨e, h, b⟩ K := by
  intro hc hf hk
  exact call_is (by rw [hc]; exact san10) (by simp [lendsOk, lends, wkL]) rfl (by rw [hf]; trivial) hk
theorem chk_caps {ps : List Spot} {rs : List Road} (h : chkP ps rs = 0) : (ps.length ≤ 100 ∧ rs.length ≤ 1500) ∧ CapsOk ps ∧ RInv ps rs rs.length := by
  unfold chkP at h
  by_cases h1 : 100 < ps.length ∨ 1500 < rs.length
  · rw [if_pos h1] at h; cases h
  rw [if_neg h1] at h
  by_cases h2 : firstE (eAt ps) ps.length 0 ≠ 0
  · rw [if_pos h2] at h; exact absurd h h2
  rw [if_neg h2] at h
  by_cases h3 : ∀ r ∈ rs, SoundP ps r
  · refine ⟨by omega, ?_, ⟨fun j hj _ => h3 _ (List.getElem_mem hj)⟩⟩
    have key : ∀ n i, i ≤ n → i < ps.length → eAt ps i = 0 := by
      intro n
      induction n with
      | zero =>
        intro i hi hil
        by_cases h4 : eAt ps i = 0
        · exact h4
        · exact absurd (firstE_at (n := ps.length) (k := 0) (by omega) (by omega) (fun j _ hj => by omega) h4) (by simp only [ne_eq, Classical.not_not] at h2; rw [h2]; exact fun h5 => h4 h5.symm)
      | succ n ih =>
        intro i hi hil
        by_cases h4 : eAt ps i = 0
        · exact h4
        · exact absurd (firstE_at (n := ps.length) (k := 0) (by omega) (by omega) (fun j _ hj => ih j (by omega) (by omega)) h4) (by simp only [ne_eq, Classical.not_not] at h2; rw [h2]; exact fun h5 => h4 h5.symm)
    intro i hi
    have := key i i (by omega) hi
    rw [eAt_lt hi] at this
    by_cases h4 : rightB ps[i] = false
    · rw [if_pos h4] at this; cases this
    · have h5 : RightP ps[i] := by simpa [rightB] using h4
      exact h5.1
  · rw [if_neg h3] at h; cases h
abbrev tPl : Fx.T := .st [.sl 3 (.st [.int .i64, .int .i64, .int .i64]), .sl 4 (.st [.int .i64, .int .i64, .int .i64, .int .i64])]
theorem fn_of' {f : FuncId} {xs : List V} (h : Ok f xs (Is (.b true))) : Fn Try.prog f xs [] [] (fun r _ => r = .b true) := (okN_post h fun r h' hr => hr.1).2
theorem exM {α β : Type} {g : α → β} : ∀ {els : List β}, (∀ x ∈ els, ∃ a, x = g a) → ∃ l : List α, els = l.map g
  | [], _ => ⟨[], rfl⟩
  | x :: r, h => by
    obtain ⟨a, rfl⟩ := h x List.mem_cons_self
    obtain ⟨l, rfl⟩ := exM (els := r) fun y hy => h y (List.mem_cons_of_mem _ hy)
    exact ⟨a :: l, rfl⟩
theorem wf_sp {x : List V} (h : WfT (.st [.int .i64, .int .i64, .int .i64]) x) : ∃ a : Spot, x = a.enc := by
  simp only [WfT, WfTs] at h
  obtain ⟨_, _, rfl, ⟨a, rfl, _⟩, _, _, rfl, ⟨b, rfl, _⟩, _, _, rfl, ⟨c, rfl, _⟩, rfl⟩ := h
  exact ⟨⟨a, b, c⟩, rfl⟩
theorem wf_rd {x : List V} (h : WfT (.st [.int .i64, .int .i64, .int .i64, .int .i64]) x) : ∃ a : Road, x = a.enc := by
  simp only [WfT, WfTs] at h
  obtain ⟨_, _, rfl, ⟨a, rfl, _⟩, _, _, rfl, ⟨b, rfl, _⟩, _, _, rfl, ⟨c, rfl, _⟩, _, _, rfl, ⟨d, rfl, _⟩, rfl⟩ := h
  exact ⟨⟨a, b, c, d⟩, rfl⟩
theorem wf_plant {x : V} (h : WfV tPl x) : ∃ ps rs, x = plant ps rs := by
  simp only [WfV] at h
  obtain ⟨cs, h, rfl⟩ := h
  rw [WfTs.eq_2] at h
  obtain ⟨a, b, rfl, h1, h2⟩ := h
  rw [WfTs.eq_2] at h2
  obtain ⟨c, d, rfl, h3, h4⟩ := h2
  rw [WfTs.eq_1] at h4
  subst h4
  rw [WfT] at h1
  obtain ⟨els, rfl, _, he⟩ := h1
  obtain ⟨ps, rfl⟩ := exM (fun x hx => wf_sp (he x hx))
  rw [WfT] at h3
  obtain ⟨els, rfl, _, he⟩ := h3
  obtain ⟨rs, rfl⟩ := exM (fun x hx => wf_rd (he x hx))
  exact ⟨ps, rs, rfl⟩
end Go.Fx.P
namespace Go.Fx.P.K
open Go Go.Fx Go.Proofs
set_option maxRecDepth 20000
def nodeB (n k : Int) : Bool := decide (0 ≤ k ∧ k < n)
theorem ok96 (n : Int) (arcs : List Arc) (k : Int) : Ok 96 [net n arcs, .i k] (Is (.b (nodeB n k))) := by
  refine ok_of lw96 (by simp) ?_
  unfold c96 net
  simp -implicitDefEqProofs only [qX, za, zf, zg, zh, zi, zj, zk, zl, zn, zp, zr, kB, kD, kF, kI, ofConst, cells?, List.length_nil, List.length_cons, List.set_cons_zero, kJ, List.getD_eq_getElem?_getD, List.getElem?_cons_zero, ↓reduceIte, Nat.reduceEqDiff, Option.getD_some, kK, kM, Bool.not_true, ↓kN, ↓kO, kP, List.nil_append, List.append_nil, Nat.zero_add, Nat.add_zero, reduceCtorEq, freshP, kR, resP, tupV, List.reverse_cons, List.reverse_nil, wfV, true_and, V.v.injEq, Value.int.injEq, Value.bool.injEq, kW, jZ, ↓qaa, ↓qac, ↓qaf, ↓qai, ↓qap, ↓qcc, ↓qcf, cxN, args0]
  simp only [br, decide_eq_true_eq, decide_eq_false_iff_not, nodeB]
  grind
def nb (n : Int) (arcs : List Arc) : Blk := .var [.i n, .ro 4 (arcs.map Arc.enc)]
end Go.Fx.P.K
namespace Go.Fx.P.K
open Go Go.Fx Go.Proofs
set_option maxRecDepth 20000
def validA (n : Int) (a : Arc) : Bool := nodeB n a.from_ && (nodeB n a.to && decide (a.from_ ≠ a.to ∧ 0 ≤ a.cap ∧ a.cap ≤ 1073741824 ∧ 0 ≤ a.cost ∧ a.cost ≤ 1048576))
def checkI (n : Int) (arcs : List Arc) : Int := if 256 < n ∨ 2048 < arcs.length then 2 else if n < 1 then 1 else if arcs.all (validA n) then 0 else 1
theorem checkI_0 {n : Int} {arcs : List Arc} (h : ¬ (256 < n ∨ 2048 < arcs.length)) (h1 : ¬ n < 1) (h2 : ∀ k (h : k < arcs.length), validA n arcs[k] = true) : checkI n arcs = 0 := by
  have : arcs.all (validA n) = true := by
    rw [List.all_eq_true]
    intro a ha
    obtain ⟨j, hj, rfl⟩ := List.getElem_of_mem ha
    exact h2 j hj
  simp only [checkI, if_neg h, if_neg h1, this, if_true]
structure VInv (n : Int) (arcs : List Arc) (k : Nat) : Prop where
  h : ∀ j (h : j < arcs.length), j < k → validA n arcs[j] = true
theorem VInv.next {n : Int} {arcs : List Arc} {k : Nat} (h : VInv n arcs k) (hk : k < arcs.length) (hv : validA n arcs[k] = true) : VInv n arcs (k + 1) := by
  refine ⟨fun j hj h2 => ?_⟩
  by_cases h3 : j = k
  · subst h3; exact hv
  · exact h.h j hj (by omega)
end Go.Fx.P.K
namespace Go.Fx.P.K
open Go Go.Fx Go.Proofs
set_option maxRecDepth 20000
structure Val (N : Nat) (arcs : List Arc) : Prop where
  hn : 1 ≤ N ∧ N ≤ 256
  hl : arcs.length ≤ 2048
  ha : ∀ a ∈ arcs, (0 ≤ a.from_ ∧ a.from_ < N) ∧ (0 ≤ a.to ∧ a.to < N) ∧ a.from_ ≠ a.to ∧ (0 ≤ a.cap ∧ a.cap ≤ 1073741824) ∧ 0 ≤ a.cost ∧ a.cost ≤ 1048576
theorem Val.of {n : Int} {arcs : List Arc} (h : checkI n arcs = 0) : ∃ N : Nat, n = N ∧ Val N arcs := by
  unfold checkI at h
  split at h
  · cases h
  · split at h
    · cases h
    · split at h
      · rename_i h1 h2 h3
        refine ⟨n.toNat, by omega, by omega, by omega, fun a ha => ?_⟩
        rw [List.all_eq_true] at h3
        have := h3 a ha
        simp only [validA, nodeB, Bool.and_eq_true, decide_eq_true_eq] at this
        omega
      · cases h
theorem Val.chk {N : Nat} {arcs : List Arc} (h : Val N arcs) : checkI N arcs = 0 := by
  obtain ⟨h1, h2, h3⟩ := h
  refine checkI_0 (by omega) (by omega) fun k hk => ?_
  have := h3 _ (List.getElem_mem hk)
  simp only [validA, nodeB, Bool.and_eq_true, decide_eq_true_eq]
  omega
def possP (arcs : List Arc) (flow : List Int) : Prop := ∀ i (h1 : i < flow.length) (h2 : i < arcs.length), 0 ≤ flow[i] ∧ flow[i] ≤ arcs[i].cap
theorem Val.flow {N : Nat} {arcs : List Arc} (h : Val N arcs) {flow : List Int} (hl : flow.length = arcs.length) (hp : possP arcs flow) : ∀ x ∈ flow, 0 ≤ x ∧ x ≤ 1073741824 := by
  intro x hx
  obtain ⟨i, hi, rfl⟩ := List.getElem_of_mem hx
  have h1 := hp i hi (by omega)
  have h2 := (h.ha arcs[i] (List.getElem_mem _))
  omega
def valTo (arcs : List Arc) (node : Int) (flow : List Int) : Nat → Int
  | 0 => 0
  | k + 1 => valTo arcs node flow k + (if (arcs.getD k ⟨0,0,0,0⟩).from_ = node then flow.getD k 0 else 0) - (if (arcs.getD k ⟨0,0,0,0⟩).to = node then flow.getD k 0 else 0)
theorem flow_b {flow : List Int} (hf : ∀ x ∈ flow, 0 ≤ x ∧ x ≤ 1073741824) (k : Nat) : 0 ≤ flow.getD k 0 ∧ flow.getD k 0 ≤ 1073741824 := by
  rw [List.getD_eq_getElem?_getD]
  cases h : flow[k]? with
  | none => simp
  | some x => exact hf x (List.mem_of_getElem? h)
theorem valTo_bound (arcs : List Arc) (node : Int) (flow : List Int) (hf : ∀ x ∈ flow, 0 ≤ x ∧ x ≤ 1073741824) : ∀ k : Nat, -((k : Int) * 1073741824) ≤ valTo arcs node flow k ∧ valTo arcs node flow k ≤ (k : Int) * 1073741824
  | 0 => by simp [valTo]
  | k + 1 => by
    have h1 := valTo_bound arcs node flow hf k
    have h2 := flow_b hf k
    simp only [valTo]
    split <;> split <;> omega
theorem valTo_step {arcs : List Arc} {node : Int} {flow : List Int} {k : Nat} (h1 : k < arcs.length) (h2 : k < flow.length) : valTo arcs node flow (k + 1) = valTo arcs node flow k + (if arcs[k].from_ = node then flow[k] else 0) - (if arcs[k].to = node then flow[k] else 0) := by
  simp only [valTo, List.getD_eq_getElem?_getD, List.getElem?_eq_getElem h1, List.getElem?_eq_getElem h2, Option.getD_some]
def totTo (arcs : List Arc) (flow : List Int) : Nat → Int
  | 0 => 0
  | k + 1 => totTo arcs flow k + flow.getD k 0 * (arcs.getD k ⟨0,0,0,0⟩).cost
theorem totTo_step {arcs : List Arc} {flow : List Int} {k : Nat} (h1 : k < arcs.length) (h2 : k < flow.length) : totTo arcs flow (k + 1) = totTo arcs flow k + flow[k] * arcs[k].cost := by
  simp only [totTo, List.getD_eq_getElem?_getD, List.getElem?_eq_getElem h1, List.getElem?_eq_getElem h2, Option.getD_some]
theorem mul_b {a b : Int} (h1 : 0 ≤ a ∧ a ≤ 1073741824) (h2 : 0 ≤ b ∧ b ≤ 1048576) : 0 ≤ a * b ∧ a * b ≤ 1125899906842624 := by
  refine ⟨Int.mul_nonneg h1.1 h2.1, ?_⟩
  have := Int.mul_le_mul h1.2 h2.2 h2.1 (by omega)
  omega
theorem totTo_bound (arcs : List Arc) (flow : List Int) (hf : ∀ x ∈ flow, 0 ≤ x ∧ x ≤ 1073741824) (ha : ∀ a ∈ arcs, 0 ≤ a.cost ∧ a.cost ≤ 1048576) : ∀ k : Nat, 0 ≤ totTo arcs flow k ∧ totTo arcs flow k ≤ (k : Int) * 1125899906842624
  | 0 => by simp [totTo]
  | k + 1 => by
    have h1 := totTo_bound arcs flow hf ha k
    have h2 := flow_b hf k
    have h3 : 0 ≤ (arcs.getD k ⟨0,0,0,0⟩).cost ∧ (arcs.getD k ⟨0,0,0,0⟩).cost ≤ 1048576 := by
      rw [List.getD_eq_getElem?_getD]
      cases h : arcs[k]? with
      | none => simp
      | some x => exact ha x (List.mem_of_getElem? h)
    have := mul_b h2 h3
    simp only [totTo]
    omega
theorem ok71 (n node : Int) (arcs : List Arc) (flow : List Int) (hl : flow.length = arcs.length) (hb : arcs.length ≤ 4096) (hf : ∀ x ∈ flow, 0 ≤ x ∧ x ≤ 1073741824) : Ok 71 [net n arcs, li flow, .i node] (Is (.i (valTo arcs node flow arcs.length))) := by
  refine ok_of lw71 (by simp) ?_
  unfold c71 net li
  simp -implicitDefEqProofs only [qX, za, zc, zd, zg, zh, zj, zl, kB, kD, kF, kI, ofConst, cells?, List.length_nil, List.length_cons, List.set_cons_zero, List.getElem?_cons_zero, ↓reduceIte, List.nil_append, List.append_nil, Nat.zero_add, Nat.reduceAdd, Nat.add_zero, freshP, true_and, kW, jZ, ↓qaa, cxN, args0]
  refine loopP_intro (fun k : Nat => ⟨[(8, .i k), (7, .i (valTo arcs node flow k)), (3, .ptr 0 0 0), (2, .i node), (1, .ro 1 (flow.map encI))], [.var [.i n, .ro 4 (arcs.map Arc.enc)]], 0⟩) (fun k => k ≤ arcs.length) (fun k => arcs.length - k) 0 (by simp) ?_ ?_
  · simp -implicitDefEqProofs only [kI, List.getElem?_cons_zero, ↓reduceIte, Nat.reduceEqDiff, reduceCtorEq, kS, leE, leH, leB, leV, leVs, keepP, liveP, wfE, wfB, wfV, wfL, Bool.and_self, and_self, leVs, leV, valTo, Int.natCast_zero]
  intro k hk
  simp -implicitDefEqProofs only [qW, qX, za, zb, zc, ze, zf, zg, zh, zj, zn, zp, zq, zr, zt, kB, kD, kF, kI, ofConst, List.length_nil, List.length_cons, kJ, List.getD_eq_getElem?_getD, List.getElem?_cons_zero, ↓reduceIte, Nat.reduceEqDiff, Option.getD_some, kK, kM, List.nil_append, List.append_nil, Nat.zero_add, Nat.add_zero, kR, resP, tupV, List.reverse_cons, List.reverse_nil, kS, leE, leH, leB, leV, leVs, keepP, liveP, wfE, wfB, wfV, wfL, Bool.and_true, Bool.and_self, true_and, and_true, and_self, V.v.injEq, Value.int.injEq, Value.bool.injEq, List.length_map, lg0, jZ, ↓qaa, ↓qac, ↓qad, ↓qae, ↓qai, ↓qap, ↓qaq, ↓qas, ↓qax, ↓qbU, ↓qbW, ↓qca, ↓qcc, List.length_map, List.getElem_map, enc_0, enc_1, encI_0, Int.toNat_natCast]
  simp only [br, decide_eq_true_eq, decide_eq_false_iff_not]
  refine fun hm => ⟨fun h => ⟨⟨by omega, h⟩, by omega, ?_⟩, fun h => ?_⟩
  · have hk1 : k < arcs.length := by omega
    have hk2 : k < flow.length := by omega
    have hfk := hf flow[k] (List.getElem_mem hk2)
    have hvb := valTo_bound arcs node flow hf k
    have hst := valTo_step (node := node) hk1 hk2
    simp only [lo, hi, beq_iff_eq, beq_eq_false_iff_ne]
    repeat' (first | (refine ⟨(k+1 : _), ?_⟩) | (refine ⟨by omega, ?_⟩) | (refine And.intro ?_ ?_) | (refine (fun _ => ?_)))
    all_goals first | omega | grind
  · have : k = arcs.length := by omega
    rw [this]
theorem ok72 (n : Int) (arcs : List Arc) (flow : List Int) (hl : flow.length = arcs.length) (hb : arcs.length ≤ 2048) (hf : ∀ x ∈ flow, 0 ≤ x ∧ x ≤ 1073741824) (ha : ∀ a ∈ arcs, 0 ≤ a.cost ∧ a.cost ≤ 1048576) : Ok 72 [net n arcs, li flow] (Is (.i (totTo arcs flow arcs.length))) := by
  refine ok_of lw72 (by simp) ?_
  unfold c72 net li
  simp -implicitDefEqProofs only [qX, za, zc, zd, zg, zh, zj, zl, kB, kD, kF, kI, ofConst, cells?, List.length_nil, List.length_cons, List.set_cons_zero, List.getElem?_cons_zero, ↓reduceIte, List.nil_append, List.append_nil, Nat.zero_add, Nat.add_zero, freshP, true_and, kW, jZ, ↓qaa, cxN, args0]
  refine loopP_intro (fun k : Nat => ⟨[(6, .i k), (5, .i (totTo arcs flow k)), (2, .ptr 0 0 0), (1, .ro 1 (flow.map encI))], [.var [.i n, .ro 4 (arcs.map Arc.enc)]], 0⟩) (fun k => k ≤ arcs.length) (fun k => arcs.length - k) 0 (by simp) ?_ ?_
  · simp -implicitDefEqProofs only [kI, List.getElem?_cons_zero, ↓reduceIte, Nat.reduceEqDiff, reduceCtorEq, kS, leE, leH, leB, leV, leVs, keepP, liveP, wfE, wfB, wfV, wfL, Bool.and_self, and_self, leVs, leV, totTo, Int.natCast_zero]
  intro k hk
  simp -implicitDefEqProofs only [qW, qX, qZ, za, zb, zc, ze, zf, zg, zh, zj, zn, zp, zq, zr, zt, kB, kD, kF, kI, ofConst, List.length_nil, List.length_cons, kJ, List.getD_eq_getElem?_getD, List.getElem?_cons_zero, ↓reduceIte, Nat.reduceEqDiff, Option.getD_some, kK, kM, List.nil_append, List.append_nil, Nat.zero_add, kR, resP, tupV, List.reverse_cons, List.reverse_nil, kS, leE, leH, leB, leV, leVs, keepP, liveP, wfE, wfB, wfV, wfL, Bool.and_true, Bool.and_self, true_and, and_true, and_self, V.v.injEq, Value.int.injEq, Value.bool.injEq, List.length_map, lg0, jZ, ↓qaa, ↓qac, ↓qad, ↓qae, ↓qai, ↓qap, ↓qaq, ↓qas, ↓qax, ↓qbU, ↓qbY, ↓qcc, List.length_map, List.getElem_map, enc_3, encI_0, Int.toNat_natCast]
  simp only [br, decide_eq_true_eq, decide_eq_false_iff_not]
  refine fun hm => ⟨fun h => ⟨⟨by omega, h⟩, by omega, ?_⟩, fun h => ?_⟩
  · have hk1 : k < arcs.length := by omega
    have hk2 : k < flow.length := by omega
    have hfk := hf flow[k] (List.getElem_mem hk2)
    have hak := ha arcs[k] (List.getElem_mem hk1)
    have hvb := totTo_bound arcs flow hf ha k
    have hst := totTo_step hk1 hk2
    have hmb := mul_b hfk hak
    simp only [lo, hi, beq_iff_eq, beq_eq_false_iff_ne]
    repeat' (first | (refine ⟨(k+1 : _), ?_⟩) | (refine ⟨by omega, ?_⟩) | (refine And.intro ?_ ?_) | (refine (fun _ => ?_)))
    all_goals first | omega | exact hst.symm
  · have : k = arcs.length := by omega
    rw [this]
structure FewInv (arcs : List Arc) (most : Int) (k : Nat) : Prop where
  h : ∀ j (h : j < arcs.length), j < k → arcs[j].cap ≤ most
def fewB (n : Int) (arcs : List Arc) (most : Int) : Bool := decide (n ≤ 12 ∧ arcs.length ≤ 30 ∧ checkI n arcs = 0) && arcs.all fun a => decide (a.cap ≤ most)
end Go.Fx.P.K
namespace Go.Fx.P.K
open Go Go.Fx Go.Proofs
set_option maxRecDepth 20000
structure OkF (n : Int) (arcs : List Arc) (f t : Int) (flow : List Int) : Prop where
  hl : flow.length = arcs.length
  hp : possP arcs flow
  hz : ∀ j : Int, 0 ≤ j → j < n → j ≠ f → j ≠ t → valTo arcs j flow arcs.length = 0
open Classical in
noncomputable def flB (n : Int) (arcs : List Arc) (f t : Int) (flow : List Int) : Bool := decide (OkF n arcs f t flow)
theorem flB_t {n : Int} {arcs : List Arc} {f t : Int} {flow : List Int} (h : OkF n arcs f t flow) : true = flB n arcs f t flow := by simp [flB, h]
theorem flB_f {n : Int} {arcs : List Arc} {f t : Int} {flow : List Int} (h : ¬ OkF n arcs f t flow) : false = flB n arcs f t flow := by simp [flB, h]
structure PInv (arcs : List Arc) (flow : List Int) (k : Nat) : Prop where
  h : ∀ j (h1 : j < flow.length) (h2 : j < arcs.length), j < k → 0 ≤ flow[j] ∧ flow[j] ≤ arcs[j].cap
structure ZInv (arcs : List Arc) (f t : Int) (flow : List Int) (k : Nat) : Prop where
  h : ∀ j : Nat, j < k → ((j : Int) ≠ f → (j : Int) ≠ t → valTo arcs j flow arcs.length = 0)
theorem ok70 (N : Nat) (arcs : List Arc) (f t : Int) (flow : List Int) (hV : Val N arcs) : Ok 70 [net N arcs, .i f, .i t, li flow] (Is (.b (flB N arcs f t flow))) := by
  refine ok_of lw70 (by simp) ?_
  unfold c70 net li
  simp -implicitDefEqProofs only [qW, qX, za, zb, zc, zd, zf, zg, zh, zj, zl, zn, zp, zr, zt, kB, kD, kF, kI, ofConst, cells?, List.length_nil, List.length_cons, List.set_cons_zero, kJ, List.getD_eq_getElem?_getD, List.getElem?_cons_zero, ↓reduceIte, Nat.reduceEqDiff, Option.getD_some, kK, kM, List.nil_append, List.append_nil, Nat.zero_add, Nat.reduceAdd, Nat.add_zero, reduceCtorEq, freshP, kR, resP, tupV, List.reverse_cons, List.reverse_nil, wfV, true_and, V.v.injEq, Value.int.injEq, Value.bool.injEq, List.length_map, lg0, kW, jZ, ↓qaa, ↓qac, ↓qae, ↓qai, ↓qap, ↓qax, ↓qcb, List.length_map, cxN, args0]
  simp only [br, decide_eq_true_eq, decide_eq_false_iff_not, bne_iff_ne, bne_eq_false_iff_eq]
  refine fun hm1 hm2 => ⟨fun h => flB_f fun hO => ?_, fun h => ?_⟩
  · have := hO.hl; omega
  have hl : flow.length = arcs.length := by omega
  have hL := hV.hl
  have hN := hV.hn
  refine loopP_intro (fun k : Nat => ⟨[(9, .i k), (4, .ptr 0 0 0), (3, .ro 1 (flow.map encI)), (2, .i t), (1, .i f)], [.var [.i N, .ro 4 (arcs.map Arc.enc)]], 0⟩) (fun k => k ≤ arcs.length ∧ PInv arcs flow k) (fun k => arcs.length - k) 0 ⟨by omega, ⟨by simp⟩⟩ ?_ ?_
  · simp -implicitDefEqProofs only [kI, List.getElem?_cons_zero, ↓reduceIte, Nat.reduceEqDiff, reduceCtorEq, kS, leE, leH, leB, leV, leVs, keepP, liveP, wfE, wfB, wfV, wfL, Bool.and_self, and_self, leVs, leV, Int.natCast_zero]
  rintro k ⟨hk, hv⟩
  simp -implicitDefEqProofs only [qW, qX, qZ, za, zb, zc, zd, ze, zf, zg, zh, zi, zj, zk, zn, zp, zq, zr, zt, kB, kD, kF, kI, ofConst, List.length_nil, List.length_cons, kJ, List.getD_eq_getElem?_getD, List.getElem?_cons_zero, ↓reduceIte, Nat.reduceEqDiff, Option.getD_some, kK, kM, Bool.not_false, ↓kN, ↓kO, kP, List.nil_append, List.append_nil, Nat.zero_add, kR, resP, tupV, List.reverse_cons, List.reverse_nil, kS, leE, leH, leB, leV, leVs, keepP, liveP, wfE, wfB, wfV, wfL, Bool.and_true, Bool.and_self, true_and, and_true, and_self, V.v.injEq, Value.int.injEq, Value.bool.injEq, List.length_map, Bool.false_eq_true, lg0, jZ, ↓qaa, ↓qac, ↓qad, ↓qae, ↓qai, ↓qap, ↓qaq, ↓qas, ↓qax, ↓qbU, ↓qcc, ↓qce, List.length_map, List.getElem_map, enc_2, encI_0, Int.toNat_natCast]
  simp only [br, decide_eq_true_eq, decide_eq_false_iff_not]
  refine fun _ => ⟨fun h2 => ?_, fun h2 => ?_⟩
  · have hk1 : k < arcs.length := by omega
    have hk2 : k < flow.length := by omega
    have bad : ¬ (0 ≤ flow[k] ∧ flow[k] ≤ arcs[k].cap) → false = flB N arcs f t flow := fun h => flB_f fun hO => h (hO.hp k hk2 hk1)
    have good : (0 ≤ flow[k] ∧ flow[k] ≤ arcs[k].cap) → PInv arcs flow (k + 1) := by
      refine fun hx => ⟨fun j h3 h4 h5 => ?_⟩
      by_cases h6 : j = k
      · subst h6; exact hx
      · exact hv.h j h3 h4 (by omega)
    simp only [lo, hi, maxLen] at *
    repeat' (first | (refine ⟨(k+1 : _), ?_⟩) | (refine ⟨by omega, ?_⟩) | (refine And.intro ?_ ?_) | (refine (fun _ => ?_)))
    all_goals first | omega | (apply bad; omega) | (apply good; omega)
  have hp : possP arcs flow := fun i h3 h4 => hv.h i h3 h4 (by omega)
  have hf := hV.flow hl hp
  refine loopP_intro (fun k : Nat => ⟨[(10, .i k), (4, .ptr 0 0 0), (3, .ro 1 (flow.map encI)), (2, .i t), (1, .i f)], [.var [.i N, .ro 4 (arcs.map Arc.enc)]], 0⟩) (fun k => k ≤ N ∧ ZInv arcs f t flow k) (fun k => N - k) 0 ⟨by omega, ⟨by simp⟩⟩ ?_ ?_
  · simp -implicitDefEqProofs only [kI, List.getElem?_cons_zero, ↓reduceIte, Nat.reduceEqDiff, kS, leE, leH, leB, leV, leVs, keepP, liveP, wfE, wfB, wfV, wfL, Bool.and_self, and_self, leVs, leV, Int.natCast_zero]
  rintro k ⟨hk, hv⟩
  simp -implicitDefEqProofs only [qW, qX, za, zb, zc, ze, zf, zg, zh, zi, zj, zk, zn, zp, zr, kx, kB, kD, kF, kI, ofConst, List.length_nil, List.length_cons, kJ, List.getD_eq_getElem?_getD, List.getElem?_cons_zero, ↓reduceIte, Nat.reduceEqDiff, Option.getD_some, kK, kM, Bool.not_true, ↓kN, ↓kO, kP, List.nil_append, List.append_nil, Nat.zero_add, Nat.reduceAdd, Nat.add_zero, kR, resP, tupV, List.reverse_cons, List.reverse_nil, kS, leE, leH, leB, leV, leVs, keepP, liveP, wfE, wfB, wfV, wfL, List.map_cons, List.map_nil, List.drop_zero, List.take_nil, Bool.and_true, Bool.and_self, true_and, and_true, and_self, V.v.injEq, Value.int.injEq, Value.bool.injEq, Nat.le_refl, kV, kZ, jZ, ↓qaa, ↓qac, ↓qaf, ↓qai, ↓qaj, ↓qap, ↓qbU, ↓qcb, ↓qcc]
  simp only [br, decide_eq_true_eq, decide_eq_false_iff_not, bne_iff_ne, bne_eq_false_iff_eq]
  have hnx : ((k : Int) ≠ f → (k : Int) ≠ t → valTo arcs k flow arcs.length = 0) → ZInv arcs f t flow (k + 1) := by
    refine fun h4 => ⟨fun j hj => ?_⟩
    by_cases h6 : j = k
    · subst h6; exact h4
    · exact hv.h j (by omega)
  refine ⟨fun h3 => ⟨fun h1 => ⟨fun h2 => ?_, fun h2 => ?_⟩, fun h1 => ?_⟩, fun h3 => ?_⟩
  · refine call_is (ok71 N k arcs flow hl (by omega) hf) (by simp [net, li, lendsOk, lendOk, lends, lend, wkL, wk, wkR]) rfl trivial ?_
    simp -implicitDefEqProofs only [qW, qX, za, zb, zf, zg, zh, zi, zj, zk, zr, kB, kD, kF, kI, ofConst, List.length_nil, List.length_cons, List.getElem?_cons_zero, ↓reduceIte, Nat.reduceEqDiff, kK, kM, ↓kN, kP, List.nil_append, List.append_nil, Nat.zero_add, kR, resP, tupV, List.reverse_cons, List.reverse_nil, kS, leE, leH, leB, leV, leVs, keepP, liveP, wfE, wfB, wfV, wfL, Bool.and_true, Bool.and_self, true_and, and_true, and_self, V.v.injEq, Value.int.injEq, Value.bool.injEq, jZ, ↓qbU, ↓qcb]
    simp only [br, decide_eq_true_eq, decide_eq_false_iff_not, bne_iff_ne, bne_eq_false_iff_eq, lo, hi]
    refine ⟨fun h5 => flB_f fun hO => h5 (hO.hz k (by omega) (by omega) h1 h2), fun h5 => ?_⟩
    repeat' (first | (refine ⟨(k+1 : _), ?_⟩) | (refine ⟨by omega, ?_⟩) | (refine And.intro ?_ ?_) | (refine (fun _ => ?_)))
    all_goals first | omega | exact hnx fun _ _ => h5
  · simp only [lo, hi]
    repeat' (first | (refine ⟨(k+1 : _), ?_⟩) | (refine ⟨by omega, ?_⟩) | (refine And.intro ?_ ?_) | (refine (fun _ => ?_)))
    all_goals first | omega | exact hnx fun _ h => absurd h2 h
  · simp only [lo, hi]
    repeat' (first | (refine ⟨(k+1 : _), ?_⟩) | (refine ⟨by omega, ?_⟩) | (refine And.intro ?_ ?_) | (refine (fun _ => ?_)))
    all_goals first | omega | exact hnx fun h _ => absurd h1 h
  · refine flB_t ⟨hl, hp, fun j h1 h2 h4 h6 => ?_⟩
    have := (hv.h j.toNat (by omega))
    rw [Int.toNat_of_nonneg h1] at this
    exact this h4 h6
def hasB (l : List Int) (x : Int) : Bool := decide (x ∈ l)
structure NInv (l : List Int) (x : Int) (k : Nat) : Prop where
  h : ∀ j (h1 : j < l.length), j < k → l[j] ≠ x
theorem ok97 (l : List Int) (x : Int) : Ok 97 [li l, .i x] (Is (.b (hasB l x))) := by
  refine ok_of lw97 (by simp) ?_
  unfold c97 li
  simp -implicitDefEqProofs only [qX, za, zc, zd, zg, zh, zj, kB, kF, ofConst, List.length_nil, List.append_nil, Nat.zero_add, jZ, cxN, args0]
  refine loopP_intro (fun k : Nat => ⟨[(5, .i k), (1, .i x), (0, .ro 1 (l.map encI))], [], 0⟩) (fun k => k ≤ l.length ∧ NInv l x k) (fun k => l.length - k) 0 ⟨by omega, ⟨by simp⟩⟩ ?_ ?_
  · simp -implicitDefEqProofs only [kI, ↓reduceIte, Nat.reduceEqDiff, reduceCtorEq, kS, leE, leH, keepP, wfE, wfB, wfV, Bool.and_self, and_self, Int.natCast_zero]
  rintro k ⟨hk, hv⟩
  simp -implicitDefEqProofs only [qW, qX, za, zb, zc, ze, zf, zg, zh, zj, zn, zq, zr, zt, kB, kD, kF, kI, ofConst, List.length_nil, ↓reduceIte, Nat.reduceEqDiff, kK, kM, List.nil_append, List.append_nil, reduceCtorEq, kR, resP, tupV, List.reverse_cons, List.reverse_nil, kS, leE, leH, keepP, wfE, wfB, wfV, Bool.and_true, Bool.and_self, true_and, and_true, and_self, V.v.injEq, Value.int.injEq, Value.bool.injEq, List.length_map, jZ, ↓qaa, ↓qad, ↓qai, ↓qas, ↓qax, ↓qbU, ↓qca, ↓qcc, List.length_map, List.getElem_map, encI_0, Int.toNat_natCast]
  simp only [br, decide_eq_true_eq, decide_eq_false_iff_not, beq_iff_eq, beq_eq_false_iff_ne]
  refine fun _ => ⟨fun h2 => ⟨⟨by omega, h2⟩, by omega, fun h3 => ?_, fun h3 => ⟨by simp only [lo, hi, maxLen] at *; omega, k + 1, ⟨⟨by omega, ⟨fun j hj h2 => ?_⟩⟩, by omega⟩, by simp⟩⟩, fun h2 => ?_⟩
  · have : x ∈ l := by rw [← h3]; exact List.getElem_mem _
    simp [hasB, this]
  · by_cases h6 : j = k
    · subst h6; exact h3
    · exact hv.h j hj (by omega)
  · have : ¬ x ∈ l := by
      intro hx
      obtain ⟨j, hj, rfl⟩ := List.getElem_of_mem hx
      exact hv.h j hj (by omega) rfl
    simp [hasB, this]
structure OkP (N : Nat) (arcs : List Arc) (f : Int) (flow price : List Int) : Prop where
  hl : price.length = N
  h0 : price.getD f.toNat 0 = 0
  hb : ∀ j (h : j < price.length), 0 ≤ price[j] ∧ price[j] ≤ 1073741824
  ha : ∀ k (h : k < arcs.length), (arcs[k].cost + price.getD arcs[k].from_.toNat 0 - price.getD arcs[k].to.toNat 0 < 0 → arcs[k].cap ≤ flow.getD k 0) ∧ (0 < arcs[k].cost + price.getD arcs[k].from_.toNat 0 - price.getD arcs[k].to.toNat 0 → flow.getD k 0 ≤ 0)
open Classical in
noncomputable def prB (N : Nat) (arcs : List Arc) (f : Int) (flow price : List Int) : Bool := decide (OkP N arcs f flow price)
theorem prB_t {N : Nat} {arcs : List Arc} {f : Int} {flow price : List Int} (h : OkP N arcs f flow price) : true = prB N arcs f flow price := by simp [prB, h]
theorem prB_f {N : Nat} {arcs : List Arc} {f : Int} {flow price : List Int} (h : ¬ OkP N arcs f flow price) : false = prB N arcs f flow price := by simp [prB, h]
theorem getD_at {l : List Int} {i : Int} (h : 0 ≤ i ∧ i < l.length) : l.getD i.toNat 0 = l[i.toNat]'(by omega) := by
  rw [List.getD_eq_getElem?_getD, List.getElem?_eq_getElem (by omega)]; rfl
theorem getD_nat {l : List Int} {k : Nat} (h : k < l.length) : l.getD k 0 = l[k] := by
  rw [List.getD_eq_getElem?_getD, List.getElem?_eq_getElem h]; rfl
structure BInv (price : List Int) (k : Nat) : Prop where
  h : ∀ j (h : j < price.length), j < k → 0 ≤ price[j] ∧ price[j] ≤ 1073741824
structure RInv (arcs : List Arc) (flow price : List Int) (k : Nat) : Prop where
  h : ∀ k' (h : k' < arcs.length), k' < k → (arcs[k'].cost + price.getD arcs[k'].from_.toNat 0 - price.getD arcs[k'].to.toNat 0 < 0 → arcs[k'].cap ≤ flow.getD k' 0) ∧ (0 < arcs[k'].cost + price.getD arcs[k'].from_.toNat 0 - price.getD arcs[k'].to.toNat 0 → flow.getD k' 0 ≤ 0)
theorem RInv.next {arcs : List Arc} {flow price : List Int} {k : Nat} (hv : RInv arcs flow price k) (hk : k < arcs.length) (h : (arcs[k].cost + price.getD arcs[k].from_.toNat 0 - price.getD arcs[k].to.toNat 0 < 0 → arcs[k].cap ≤ flow.getD k 0) ∧ (0 < arcs[k].cost + price.getD arcs[k].from_.toNat 0 - price.getD arcs[k].to.toNat 0 → flow.getD k 0 ≤ 0)) : RInv arcs flow price (k + 1) := by
  refine ⟨fun j hj h2 => ?_⟩
  by_cases h6 : j = k
  · subst h6; exact h
  · exact hv.h j hj (by omega)
theorem ok73 (N : Nat) (arcs : List Arc) (f : Int) (fr : Fr) (hV : Val N arcs) (hf : 0 ≤ f ∧ f < N) (hl : fr.flow.length = arcs.length) : Ok 73 [net N arcs, .i f, fr.enc] (Is (.b (prB N arcs f fr.flow fr.price))) := by
  refine ok_of lw73 (by simp) ?_
  unfold c73 net Fr.enc li
  simp -implicitDefEqProofs only [qW, qX, za, zb, zc, zd, zf, zg, zh, zi, zj, zk, zl, zn, zp, zq, zr, zt, kB, kD, kF, kI, ofConst, cells?, List.length_nil, List.length_cons, List.set_cons_zero, kJ, List.getD_eq_getElem?_getD, List.getElem?_cons_zero, ↓reduceIte, Nat.reduceEqDiff, Option.getD_some, kK, kM, Bool.not_false, ↓kN, ↓kO, kP, List.nil_append, List.append_nil, Nat.zero_add, Nat.reduceAdd, Nat.add_zero, reduceCtorEq, freshP, kR, resP, tupV, List.reverse_cons, List.reverse_nil, wfV, true_and, V.v.injEq, Value.int.injEq, Value.bool.injEq, List.length_map, Bool.false_eq_true, lg0, kT, kW, lg1, wa, lg2, jZ, ↓qaa, ↓qac, ↓qad, ↓qae, ↓qaf, ↓qai, ↓qap, ↓qas, ↓qax, ↓qcb, List.length_map, List.getElem_map, encI_0, cxN, args0]
  simp only [br, decide_eq_true_eq, decide_eq_false_iff_not, bne_iff_ne, bne_eq_false_iff_eq]
  have hL := hV.hl
  have hN := hV.hn
  refine fun hm1 => ⟨fun h => prB_f fun hO => ?_, fun h => ?_⟩
  · have := hO.hl; omega
  have hpl : fr.price.length = N := by omega
  refine ⟨⟨hf.1, by omega⟩, by omega, fun h0 => prB_f fun hO => ?_, fun h0 => ?_⟩
  · have := hO.h0
    rw [getD_at (by omega)] at this
    exact h0 this
  refine loopP_intro (fun k : Nat => ⟨[(7, .i k), (5, .ptr 1 0 0), (3, .ptr 0 0 0), (1, .i f)], [.var [.i N, .ro 4 (arcs.map Arc.enc)], .var [.i fr.sent, .i fr.cost, .ro 1 (fr.flow.map encI), .ro 1 (fr.price.map encI), .ro 1 (fr.cut.map encI)]], 0⟩) (fun k => k ≤ N ∧ BInv fr.price k) (fun k => N - k) 0 ⟨by omega, ⟨by simp⟩⟩ ?_ ?_
  · simp -implicitDefEqProofs only [kI, List.getElem?_cons_zero, ↓reduceIte, Nat.reduceEqDiff, reduceCtorEq, kS, leE, leH, leB, leV, leVs, keepP, liveP, wfE, wfB, wfV, wfL, Bool.and_self, and_self, lg0, leVs, leV, Int.natCast_zero]
  rintro k ⟨hk, hv⟩
  simp -implicitDefEqProofs only [qW, qX, za, zb, zc, zd, ze, zf, zg, zh, zi, zj, zk, zn, zp, zq, zr, kB, kD, kF, kI, ofConst, List.length_nil, List.length_cons, kJ, List.getD_eq_getElem?_getD, List.getElem?_cons_zero, ↓reduceIte, Nat.reduceEqDiff, Option.getD_some, kK, kM, Bool.not_false, ↓kN, ↓kO, kP, List.nil_append, List.append_nil, Nat.zero_add, Nat.reduceAdd, Nat.add_zero, kR, resP, tupV, List.reverse_cons, List.reverse_nil, kS, leE, leH, leB, leV, leVs, keepP, liveP, wfE, wfB, wfV, wfL, Bool.and_true, Bool.and_self, true_and, and_true, and_self, V.v.injEq, Value.int.injEq, Value.bool.injEq, List.length_map, Bool.false_eq_true, lg0, lg1, lg2, jZ, ↓qaa, ↓qac, ↓qad, ↓qae, ↓qaf, ↓qai, ↓qap, ↓qas, ↓qbU, ↓qcc, ↓qce, List.length_map, List.getElem_map, encI_0, Int.toNat_natCast]
  simp only [br, decide_eq_true_eq, decide_eq_false_iff_not]
  refine ⟨fun h2 => ?_, fun h2 => ?_⟩
  · have hk1 : k < fr.price.length := by omega
    have bad : ¬ (0 ≤ fr.price[k] ∧ fr.price[k] ≤ 1073741824) → false = prB N arcs f fr.flow fr.price := fun h => prB_f fun hO => h (hO.hb k hk1)
    have good : (0 ≤ fr.price[k] ∧ fr.price[k] ≤ 1073741824) → BInv fr.price (k + 1) := by
      refine fun hx => ⟨fun j h3 h5 => ?_⟩
      by_cases h6 : j = k
      · subst h6; exact hx
      · exact hv.h j h3 (by omega)
    simp only [lo, hi, maxLen] at *
    repeat' (first | (refine ⟨(k+1 : _), ?_⟩) | (refine ⟨by omega, ?_⟩) | (refine And.intro ?_ ?_) | (refine (fun _ => ?_)))
    all_goals first | omega | (apply bad; omega) | (apply good; omega)
  have hb : ∀ j (h : j < fr.price.length), 0 ≤ fr.price[j] ∧ fr.price[j] ≤ 1073741824 := fun j hj => hv.h j hj (by omega)
  refine loopP_intro (fun k : Nat => ⟨[(8, .i k), (5, .ptr 1 0 0), (3, .ptr 0 0 0), (1, .i f)], [.var [.i N, .ro 4 (arcs.map Arc.enc)], .var [.i fr.sent, .i fr.cost, .ro 1 (fr.flow.map encI), .ro 1 (fr.price.map encI), .ro 1 (fr.cut.map encI)]], 0⟩) (fun k => k ≤ arcs.length ∧ RInv arcs fr.flow fr.price k) (fun k => arcs.length - k) 0 ⟨by omega, ⟨by simp⟩⟩ ?_ ?_
  · simp -implicitDefEqProofs only [kI, List.getElem?_cons_zero, ↓reduceIte, Nat.reduceEqDiff, kS, leE, leH, leB, leV, leVs, keepP, liveP, wfE, wfB, wfV, wfL, Bool.and_self, and_self, lg0, leVs, leV, Int.natCast_zero]
  rintro k ⟨hk, hv⟩
  simp -implicitDefEqProofs only [qW, qX, qZ, za, zb, zc, ze, zf, zg, zh, zi, zj, zk, zm, zn, zo, zp, zq, zr, zt, kB, kC, kD, kF, kI, ofConst, cells?, List.length_nil, List.length_cons, List.set_cons_zero, splice, kJ, List.getD_eq_getElem?_getD, List.getElem?_cons_zero, ↓reduceIte, Nat.reduceEqDiff, Option.getD_some, kK, kM, Bool.not_true, Bool.not_false, ↓kN, ↓kO, kP, kQ, List.nil_append, List.cons_append, List.append_nil, Nat.zero_add, Nat.reduceAdd, Nat.add_zero, freshP, kR, resP, tupV, List.reverse_cons, List.reverse_nil, kS, leE, leH, leB, leV, leVs, keepP, liveP, wfE, wfB, wfV, wfL, List.map_cons, List.map_nil, List.drop_zero, List.take_zero, List.drop_nil, Bool.and_true, Bool.and_self, true_and, and_true, and_self, V.v.injEq, Value.int.injEq, Value.bool.injEq, List.not_mem_nil, List.length_map, not_false_eq_true, Bool.false_eq_true, Nat.le_refl, lg0, kT, kU, kW, lg1, kX, kY, lg2, wc, wh, jZ, ↓qaa, ↓qac, ↓qad, ↓qae, ↓qaf, ↓qai, ↓qaj, ↓qak, ↓qam, ↓qap, ↓qas, ↓qax, ↓qbU, ↓qbW, ↓qcc, ↓qce, List.length_map, List.getElem_map, enc_len, enc_take, enc_0, enc_1, enc_2, enc_3, enc_isC, encI_0, Int.toNat_natCast]
  simp only [br, decide_eq_true_eq, decide_eq_false_iff_not]
  refine fun hm2 => ⟨fun h2 => ?_, fun h2 => ?_⟩
  · have hk1 : k < arcs.length := by omega
    have hk2 : k < fr.flow.length := by omega
    have hva := hV.ha arcs[k] (List.getElem_mem hk1)
    have b1 := hb arcs[k].from_.toNat (by omega)
    have b2 := hb arcs[k].to.toNat (by omega)
    have bad : ¬ (_ ∧ _) → false = prB N arcs f fr.flow fr.price := fun h => prB_f fun hO => h (hO.ha k hk1)
    have good := hv.next hk1
    rw [getD_at (by omega), getD_at (by omega), getD_nat hk2] at bad good
    simp only [lo, hi, maxLen] at *
    repeat' (first | (refine ⟨(k+1 : _), ?_⟩) | (refine ⟨by omega, ?_⟩) | (refine And.intro ?_ ?_) | (refine (fun _ => ?_)))
    all_goals first | omega | (apply bad; omega) | (apply good; omega)
  · refine prB_t ⟨hpl, ?_, hb, fun j hj => hv.h j hj (by omega)⟩
    rw [getD_at (by omega)]; exact h0
end Go.Fx.P.K
namespace Go.Fx.P.K
open Go Go.Fx Go.Proofs
set_option maxRecDepth 20000
structure OkS (n : Int) (cut : List Int) (k : Nat) : Prop where
  h : ∀ j (h : j < cut.length), j < k → (0 ≤ cut[j] ∧ cut[j] < n) ∧ (0 < j → cut.getD (j - 1) 0 < cut[j])
theorem OkS.next {n : Int} {cut : List Int} {k : Nat} (hv : OkS n cut k) (hk : k < cut.length) (h : (0 ≤ cut[k] ∧ cut[k] < n) ∧ (0 < k → cut.getD (k - 1) 0 < cut[k])) : OkS n cut (k + 1) := by
  refine ⟨fun j hj h2 => ?_⟩
  by_cases h6 : j = k
  · subst h6; exact h
  · exact hv.h j hj (by omega)
structure OkA (arcs : List Arc) (flow : List Int) (cut : List Int) (k : Nat) : Prop where
  h : ∀ j (h : j < arcs.length), j < k → (hasB cut arcs[j].from_ = true → hasB cut arcs[j].to = false → flow.getD j 0 = arcs[j].cap) ∧ (hasB cut arcs[j].to = true → hasB cut arcs[j].from_ = false → flow.getD j 0 = 0)
theorem OkA.next {arcs : List Arc} {flow cut : List Int} {k : Nat} (hv : OkA arcs flow cut k) (hk : k < arcs.length) (h : (hasB cut arcs[k].from_ = true → hasB cut arcs[k].to = false → flow.getD k 0 = arcs[k].cap) ∧ (hasB cut arcs[k].to = true → hasB cut arcs[k].from_ = false → flow.getD k 0 = 0)) : OkA arcs flow cut (k + 1) := by
  refine ⟨fun j hj h2 => ?_⟩
  by_cases h6 : j = k
  · subst h6; exact h
  · exact hv.h j hj (by omega)
structure OkC (n : Int) (arcs : List Arc) (f t : Int) (flow cut : List Int) : Prop where
  hs : OkS n cut cut.length
  hf : hasB cut f = true
  ht : hasB cut t = false
  ha : OkA arcs flow cut arcs.length
open Classical in
noncomputable def cuB (n : Int) (arcs : List Arc) (f t : Int) (flow cut : List Int) : Bool := decide (OkC n arcs f t flow cut)
theorem cuB_t {n : Int} {arcs : List Arc} {f t : Int} {flow cut : List Int} (h : OkC n arcs f t flow cut) : true = cuB n arcs f t flow cut := by simp [cuB, h]
theorem cuB_f {n : Int} {arcs : List Arc} {f t : Int} {flow cut : List Int} (h : ¬ OkC n arcs f t flow cut) : false = cuB n arcs f t flow cut := by simp [cuB, h]
def frB (fr : Fr) : Blk := .var [.i fr.sent, .i fr.cost, .ro 1 (fr.flow.map encI), .ro 1 (fr.price.map encI), .ro 1 (fr.cut.map encI)]
theorem ok74 (N : Nat) (arcs : List Arc) (f t : Int) (fr : Fr) (hV : Val N arcs) (hl : fr.flow.length = arcs.length) : Ok 74 [net N arcs, .i f, .i t, fr.enc] (Is (.b (cuB N arcs f t fr.flow fr.cut))) := by
  refine ok_of lw74 (by simp) ?_
  unfold c74 net Fr.enc li
  simp -implicitDefEqProofs only [qX, za, zc, zd, zg, zh, zj, zl, kB, kD, kF, kI, ofConst, cells?, List.length_nil, List.length_cons, List.set_cons_zero, List.getElem?_cons_zero, ↓reduceIte, Nat.reduceEqDiff, List.nil_append, List.append_nil, Nat.zero_add, Nat.reduceAdd, Nat.add_zero, reduceCtorEq, freshP, true_and, lg0, kT, kW, wa, jZ, ↓qaa, cxN, args0]
  have hL := hV.hl
  have hN := hV.hn
  refine loopP_intro (fun k : Nat => ⟨[(9, .i k), (7, .ptr 1 0 0), (4, .ptr 0 0 0), (2, .i t), (1, .i f)], [.var [.i N, .ro 4 (arcs.map Arc.enc)], frB fr], 0⟩) (fun k => k ≤ fr.cut.length ∧ OkS N fr.cut k) (fun k => fr.cut.length - k) 0 ⟨by omega, ⟨by simp⟩⟩ ?_ ?_
  · simp -implicitDefEqProofs only [kI, List.getElem?_cons_zero, ↓reduceIte, Nat.reduceEqDiff, reduceCtorEq, kS, leE, leH, leB, leV, leVs, keepP, liveP, wfE, wfB, wfV, wfL, Bool.and_self, and_self, lg0, leVs, leV, Int.natCast_zero, frB]
  rintro k ⟨hk, hv⟩
  simp -implicitDefEqProofs only [qa, qc, qd, qO, rdK, qP, qR, qS, qU, qW, qX, za, zb, zc, ze, zg, zh, zj, zn, zp, zq, zr, zt, kx, kB, kD, kI, List.length_nil, List.length_cons, kJ, List.getD_eq_getElem?_getD, List.getElem?_cons_zero, ↓reduceIte, Nat.reduceEqDiff, Option.getD_some, kK, kM, List.append_nil, Nat.zero_add, Nat.reduceAdd, List.map_cons, List.map_nil, List.drop_zero, List.take_nil, Bool.and_true, true_and, and_true, List.length_map, Bool.false_eq_true, Nat.le_refl, lg0, kV, lg1, kZ, lg2, lg3, jZ, ↓qaa, ↓qac, ↓qad, ↓qae, ↓qaf, ↓qai, ↓qaj, ↓qap, ↓qas, ↓qax, ↓qcc, List.length_map, List.getElem_map, encI_0, Int.toNat_natCast, frB]
  simp only [br, decide_eq_true_eq, decide_eq_false_iff_not]
  refine fun hm1 => ⟨fun h2 => ?_, fun h2 => ?_⟩
  · have hk1 : k < fr.cut.length := by omega
    have good := hv.next hk1
    have bad : ¬ ((0 ≤ fr.cut[k] ∧ fr.cut[k] < N) ∧ (0 < k → fr.cut.getD (k - 1) 0 < fr.cut[k])) → false = cuB N arcs f t fr.flow fr.cut := fun h => cuB_f fun hO => h (hO.hs.h k hk1 hk1)
    refine ⟨⟨by omega, h2⟩, by omega, ?_⟩
    refine call_is (ok96 N arcs fr.cut[k]) (by simp [net, lendsOk, lendOk, lends, lend, wkL, wk, wkR]) rfl trivial ?_
    cases hn : nodeB N fr.cut[k] with
    | false =>
      simp -implicitDefEqProofs only [qa, qb, qc, qd, qe, qi, qO, rdK, qQ, qS, qT, qX, za, zb, zf, zg, zh, zj, zk, zv, kB, kD, kF, kI, ofConst, List.length_nil, List.length_cons, ↓reduceIte, Nat.reduceEqDiff, kL, kM, Bool.not_false, ↓kN, kP, kQ, List.nil_append, List.append_nil, Nat.zero_add, Nat.reduceAdd, kR, resP, tupV, List.reverse_cons, List.reverse_nil, wfV, true_and, V.v.injEq, Value.int.injEq, Value.bool.injEq, Bool.false_eq_true, jZ]
      simp only [nodeB, decide_eq_false_iff_not] at hn
      exact bad fun h => hn h.1
    | true =>
      simp -implicitDefEqProofs only [qa, qb, qc, qd, qe, qi, qO, rdK, qQ, qS, qT, qW, qX, za, zb, zf, zg, zh, zj, zk, zn, zp, zq, zr, zv, kB, kD, kF, kI, ofConst, List.length_nil, List.length_cons, kJ, List.getD_eq_getElem?_getD, List.getElem?_cons_zero, ↓reduceIte, Nat.reduceEqDiff, Option.getD_some, kK, kL, kM, Bool.not_true, ↓kN, ↓kO, kP, List.nil_append, List.append_nil, Nat.zero_add, Nat.reduceAdd, kR, resP, tupV, List.reverse_cons, List.reverse_nil, kS, leE, leH, leB, leV, leVs, keepP, liveP, wfE, wfB, wfV, wfL, Bool.and_true, Bool.and_self, true_and, and_true, and_self, V.v.injEq, Value.int.injEq, Value.bool.injEq, List.length_map, Bool.false_eq_true, lg0, lg1, lg2, lg3, jZ, ↓qaa, ↓qac, ↓qad, ↓qae, ↓qai, ↓qap, ↓qas, ↓qbU, ↓qbW, ↓qcd, ↓qce, List.length_map, List.getElem_map, encI_0, Int.toNat_natCast]
      simp only [nodeB, decide_eq_true_eq] at hn
      have hp : 0 < k → fr.cut.getD (k - 1) 0 = fr.cut[((k : Int) - 1).toNat]'(by omega) := by
        intro h0
        have e1 : ((k : Int) - 1).toNat = k - 1 := by omega
        simp only [e1]
        exact getD_nat (by omega)
      simp only [br, decide_eq_true_eq, decide_eq_false_iff_not, lo, hi, maxLen] at *
      repeat' (first | (refine ⟨(k+1 : _), ?_⟩) | (refine ⟨by omega, ?_⟩) | (refine And.intro ?_ ?_) | (refine (fun _ => ?_)))
      all_goals first | omega | (apply bad; rintro ⟨_, h4⟩; have h4 := h4 (by omega); rw [hp (by omega)] at h4; omega) | (apply good; refine ⟨hn, fun h0 => ?_⟩; rw [hp h0]; omega) | (apply good; refine ⟨hn, fun h0 => ?_⟩; omega)
  have hs : OkS N fr.cut fr.cut.length := ⟨fun j h _ => hv.h j h (by omega)⟩
  refine call_is (ok97 fr.cut f) (by simp [li, lendsOk, lendOk, lends, lend, wkL, wk, wkR]) rfl trivial ?_
  cases hf : hasB fr.cut f with
  | false =>
    simp -implicitDefEqProofs only [qX, za, zb, zf, zg, zh, zi, zj, zk, zv, kB, kD, kF, kI, ofConst, List.length_nil, List.length_cons, ↓reduceIte, Nat.reduceEqDiff, kL, kM, Bool.not_false, ↓kN, kP, List.nil_append, List.append_nil, Nat.zero_add, Nat.reduceAdd, kR, resP, tupV, List.reverse_cons, List.reverse_nil, wfV, true_and, V.v.injEq, Value.int.injEq, Value.bool.injEq, Bool.false_eq_true, jZ]
    exact cuB_f fun hO => by have := hO.hf; rw [hf] at this; cases this
  | true =>
  simp -implicitDefEqProofs only [zh, zi, zj, zn, zp, zv, kx, kB, kD, kI, kJ, List.getD_eq_getElem?_getD, List.getElem?_cons_zero, ↓reduceIte, Nat.reduceEqDiff, Option.getD_some, kL, Bool.not_true, ↓kO, kP, Nat.zero_add, List.map_cons, List.map_nil, Bool.false_eq_true, lg0, lg1, lg2, lg3, ↓qaa, ↓qac, ↓qae, ↓qai, ↓qap]
  refine call_is (ok97 fr.cut t) (by simp [li, lendsOk, lendOk, lends, lend, wkL, wk, wkR]) rfl trivial ?_
  cases ht : hasB fr.cut t with
  | true =>
    simp -implicitDefEqProofs only [qX, za, zb, zf, zg, zh, zj, zk, kB, kD, kF, kI, ofConst, List.length_nil, List.length_cons, ↓reduceIte, Nat.reduceEqDiff, kM, ↓kN, ↓kO, List.nil_append, List.append_nil, Nat.zero_add, Nat.reduceAdd, kR, resP, tupV, List.reverse_cons, List.reverse_nil, wfV, true_and, V.v.injEq, Value.int.injEq, Value.bool.injEq, jZ]
    exact cuB_f fun hO => by have := hO.ht; rw [ht] at this; cases this
  | false =>
  simp -implicitDefEqProofs only [qW, qX, za, zb, zc, zd, zg, zh, zj, zk, kB, kD, kF, kI, ofConst, List.length_nil, List.length_cons, ↓reduceIte, Nat.reduceEqDiff, kM, ↓kO, List.append_nil, Nat.zero_add, Nat.reduceAdd, jZ]
  refine loopP_intro (fun k : Nat => ⟨[(10, .i k), (7, .ptr 1 0 0), (4, .ptr 0 0 0)], [.var [.i N, .ro 4 (arcs.map Arc.enc)], frB fr], 0⟩) (fun k => k ≤ arcs.length ∧ OkA arcs fr.flow fr.cut k) (fun k => arcs.length - k) 0 ⟨by omega, ⟨by simp⟩⟩ ?_ ?_
  · simp -implicitDefEqProofs only [kI, List.getElem?_cons_zero, ↓reduceIte, Nat.reduceEqDiff, kS, leE, leH, leB, leV, leVs, keepP, liveP, wfE, wfB, wfV, wfL, Bool.and_self, and_self, lg0, leVs, leV, Int.natCast_zero, frB]
  rintro k ⟨hk, hv⟩
  simp -implicitDefEqProofs only [qW, qX, za, zb, zc, ze, zf, zg, zh, zj, zm, zn, zo, zp, zq, zr, zt, kx, kB, kC, kD, kF, kI, ofConst, cells?, List.length_nil, List.length_cons, List.set_cons_zero, splice, kJ, List.getD_eq_getElem?_getD, List.getElem?_cons_zero, ↓reduceIte, Nat.reduceEqDiff, Option.getD_some, kK, kM, List.nil_append, List.cons_append, List.append_nil, Nat.zero_add, Nat.reduceAdd, Nat.add_zero, freshP, kR, resP, tupV, List.reverse_cons, List.reverse_nil, wfV, List.map_cons, List.map_nil, List.drop_zero, List.take_zero, List.drop_nil, Bool.and_true, true_and, and_true, V.v.injEq, Value.int.injEq, Value.bool.injEq, List.not_mem_nil, List.length_map, not_false_eq_true, Nat.le_refl, lg0, kT, kU, kW, lg1, kX, kY, lg2, wc, lg3, wh, jZ, ↓qaa, ↓qac, ↓qad, ↓qae, ↓qaf, ↓qai, ↓qaj, ↓qak, ↓qam, ↓qap, ↓qas, ↓qax, ↓qcc, List.length_map, List.getElem_map, enc_len, enc_take, enc_0, enc_isC, Int.toNat_natCast, frB]
  simp only [br, decide_eq_true_eq, decide_eq_false_iff_not]
  refine fun hm2 => ⟨fun h2 => ?_, fun h2 => cuB_t ⟨hs, hf, ht, ⟨fun j h _ => hv.h j h (by omega)⟩⟩⟩
  have hk1 : k < arcs.length := by omega
  have hk2 : k < fr.flow.length := by omega
  refine ⟨⟨by omega, h2⟩, by omega, ?_⟩
  have good := hv.next hk1
  have bad : ¬ (_ ∧ _) → false = cuB N arcs f t fr.flow fr.cut := fun h => cuB_f fun hO => h (hO.ha.h k hk1 hk1)
  rw [getD_nat hk2] at good bad
  refine call_is (ok97 fr.cut arcs[k].from_) (by simp [li, lendsOk, lendOk, lends, lend, wkL, wk, wkR]) rfl trivial ?_
  simp -implicitDefEqProofs only [qX, za, zg, zh, zj, zn, zp, kx, kB, kD, kI, List.length_nil, List.length_cons, kJ, List.getD_eq_getElem?_getD, List.getElem?_cons_zero, ↓reduceIte, Nat.reduceEqDiff, Option.getD_some, List.append_nil, Nat.zero_add, Nat.reduceAdd, List.map_cons, List.map_nil, lg0, lg1, lg2, lg3, jZ, ↓qaa, ↓qac, ↓qae, ↓qai, ↓qap, enc_1]
  refine call_is (ok97 fr.cut arcs[k].to) (by simp [li, lendsOk, lendOk, lends, lend, wkL, wk, wkR]) rfl trivial ?_
  generalize hasB fr.cut arcs[k].from_ = x at *
  generalize hasB fr.cut arcs[k].to = y at *
  cases x <;> cases y <;> simp -implicitDefEqProofs only [qW, qX, qZ, za, zb, zf, zg, zh, zi, zj, zk, zn, zp, zq, zr, zv, kB, kD, kF, kI, ofConst, List.length_nil, List.length_cons, kJ, List.getD_eq_getElem?_getD, List.getElem?_cons_zero, ↓reduceIte, Nat.reduceEqDiff, Option.getD_some, kK, kL, kM, Bool.not_true, Bool.not_false, ↓kN, ↓kO, kP, kQ, List.nil_append, List.append_nil, Nat.zero_add, Nat.reduceAdd, kR, resP, tupV, List.reverse_cons, List.reverse_nil, kS, leE, leH, leB, leV, leVs, keepP, liveP, wfE, wfB, wfV, wfL, Bool.and_true, Bool.and_self, true_and, and_true, and_self, V.v.injEq, Value.int.injEq, Value.bool.injEq, List.length_map, Bool.false_eq_true, lg0, lg1, jZ, ↓qaa, ↓qac, ↓qad, ↓qae, ↓qai, ↓qap, ↓qas, ↓qbU, ↓qcb, List.length_map, List.getElem_map, enc_2, encI_0, Int.toNat_natCast] <;> simp only [br, decide_eq_true_eq, decide_eq_false_iff_not, bne_iff_ne, bne_eq_false_iff_eq, lo, hi, maxLen] at * <;>
    (repeat' (first | (refine ⟨(k+1 : _), ?_⟩) | (refine ⟨by omega, ?_⟩) | (refine And.intro ?_ ?_) | (refine (fun _ => ?_)))) <;> first | omega | (apply bad; simp; omega) | (apply good; simp; try omega)
structure OkAc (N : Nat) (arcs : List Arc) (f t am : Int) (fr : Fr) : Prop where
  fl : OkF N arcs f t fr.flow
  hs : 0 ≤ fr.sent ∧ fr.sent ≤ am
  hv : valTo arcs f fr.flow arcs.length = fr.sent
  ht : totTo arcs fr.flow arcs.length = fr.cost
  hp : OkP N arcs f fr.flow fr.price
  hc : if fr.sent = am then fr.cut = [] else OkC N arcs f t fr.flow fr.cut
open Classical in
noncomputable def accI (N : Nat) (arcs : List Arc) (f t am : Int) (fr : Fr) : Int := if OkAc N arcs f t am fr then 0 else 110
theorem accI_t {N : Nat} {arcs : List Arc} {f t am : Int} {fr : Fr} (h : OkAc N arcs f t am fr) : 0 = accI N arcs f t am fr := by simp [accI, h]
theorem accI_f {N : Nat} {arcs : List Arc} {f t am : Int} {fr : Fr} (h : ¬ OkAc N arcs f t am fr) : 110 = accI N arcs f t am fr := by simp [accI, h]
theorem ok49 (N : Nat) (arcs : List Arc) (f t am : Int) (fr : Fr) (hV : Val N arcs) (hf : 0 ≤ f ∧ f < N) : Ok 49 [net N arcs, .i f, .i t, .i am, fr.enc] (Is (.i (accI N arcs f t am fr))) := by
  refine ok_of lw49 (by simp) ?_
  unfold c49 net Fr.enc li
  have hL := hV.hl
  have hN := hV.hn
  have hac := fun a ha => (hV.ha a ha).2.2.2.2
  simp -implicitDefEqProofs only [qX, za, zg, zh, zj, zl, zn, zp, kx, kB, kD, kF, kI, ofConst, cells?, List.length_nil, List.length_cons, List.set_cons_zero, kJ, List.getD_eq_getElem?_getD, List.getElem?_cons_zero, ↓reduceIte, Nat.reduceEqDiff, Option.getD_some, List.nil_append, List.append_nil, Nat.zero_add, Nat.reduceAdd, Nat.add_zero, reduceCtorEq, freshP, List.map_cons, List.map_nil, List.drop_zero, List.take_nil, true_and, Nat.le_refl, lg0, kT, kV, kW, lg1, kZ, wa, jZ, ↓qaa, ↓qac, ↓qae, ↓qaf, ↓qai, ↓qaj, ↓qap, cxN, args0]
  refine call_is (ok70 N arcs f t fr.flow hV) (by simp [net, li, lendsOk, lendOk, lends, lend, wkL, wk, wkR]) rfl trivial ?_
  cases hfl : flB N arcs f t fr.flow with
  | false =>
    simp -implicitDefEqProofs only [qa, qb, qc, qe, qi, qO, rdK, qP, qQ, qR, qS, qT, qV, qX, za, zb, zf, zg, zh, zj, zk, zv, kB, kD, kF, kI, ofConst, List.length_nil, List.length_cons, ↓reduceIte, Nat.reduceEqDiff, kL, kM, Bool.not_false, ↓kN, kP, List.nil_append, List.append_nil, Nat.zero_add, Nat.reduceAdd, kR, resP, tupV, List.reverse_cons, List.reverse_nil, wfV, Bool.and_true, true_and, and_true, V.v.injEq, Value.int.injEq, Value.bool.injEq, Bool.false_eq_true, jZ]
    exact accI_f fun hO => by have := flB_t hO.fl; rw [hfl] at this; cases this
  | true =>
  have hfl : OkF N arcs f t fr.flow := by
    apply Classical.byContradiction
    intro h
    have := flB_f h; rw [hfl] at this; cases this
  have hl := hfl.hl
  have hfb := hV.flow hl hfl.hp
  simp -implicitDefEqProofs only [qa, qb, qc, qe, qi, qO, rdK, qP, qQ, qR, qS, qT, qV, qX, za, zb, zf, zg, zh, zj, zk, zn, zp, zr, zv, kx, kB, kD, kF, kI, ofConst, List.length_nil, List.length_cons, kJ, List.getD_eq_getElem?_getD, List.getElem?_cons_zero, ↓reduceIte, Nat.reduceEqDiff, Option.getD_some, kK, kL, kM, Bool.not_true, Bool.not_false, ↓kN, ↓kO, kP, List.nil_append, List.append_nil, Nat.zero_add, Nat.reduceAdd, Nat.add_zero, reduceCtorEq, kR, resP, tupV, List.reverse_cons, List.reverse_nil, wfV, List.map_cons, List.map_nil, List.drop_zero, List.take_nil, Bool.and_true, true_and, and_true, V.v.injEq, Value.int.injEq, Value.bool.injEq, Bool.false_eq_true, Nat.le_refl, lg0, kV, lg1, kZ, jZ, ↓qaa, ↓qac, ↓qae, ↓qaf, ↓qai, ↓qaj, ↓qap, ↓qcc, ↓qce]
  simp only [br, decide_eq_true_eq, decide_eq_false_iff_not]
  refine ⟨fun h => accI_f fun hO => by have := hO.hs; omega, fun h0 => ⟨fun h => accI_f fun hO => by have := hO.hs; omega, fun h1 => ?_⟩⟩
  refine call_is (ok71 N f arcs fr.flow hl (by omega) hfb) (by simp [net, li, lendsOk, lendOk, lends, lend, wkL, wk, wkR]) rfl trivial ?_
  simp -implicitDefEqProofs only [qa, qb, qc, qe, qi, qO, rdK, qQ, qR, qS, qT, qV, qX, za, zb, zf, zg, zh, zj, zk, zn, zp, zr, kx, kB, kD, kF, kI, ofConst, List.length_nil, List.length_cons, kJ, List.getD_eq_getElem?_getD, List.getElem?_cons_zero, ↓reduceIte, Nat.reduceEqDiff, Option.getD_some, kK, kM, Bool.not_false, ↓kN, ↓kO, kP, List.nil_append, List.append_nil, Nat.zero_add, Nat.reduceAdd, kR, resP, tupV, List.reverse_cons, List.reverse_nil, wfV, List.map_cons, List.map_nil, List.drop_zero, List.take_nil, Bool.and_true, true_and, and_true, V.v.injEq, Value.int.injEq, Value.bool.injEq, Bool.false_eq_true, Nat.le_refl, lg0, kV, lg1, kZ, jZ, ↓qaa, ↓qac, ↓qae, ↓qaf, ↓qai, ↓qaj, ↓qap, ↓qcb]
  simp only [br, bne_iff_ne, bne_eq_false_iff_eq]
  refine ⟨fun h => accI_f fun hO => h hO.hv, fun h2 => ?_⟩
  refine call_is (ok72 N arcs fr.flow hl hL hfb hac) (by simp [net, li, lendsOk, lendOk, lends, lend, wkL, wk, wkR]) rfl trivial ?_
  simp -implicitDefEqProofs only [qa, qb, qe, qi, qO, rdK, qQ, qR, qS, qT, qV, qX, za, zb, zf, zg, zh, zj, zk, zn, zr, kx, kB, kD, kF, kI, ofConst, List.length_nil, List.length_cons, kJ, List.getD_eq_getElem?_getD, List.getElem?_cons_zero, ↓reduceIte, Nat.reduceEqDiff, Option.getD_some, kK, kM, Bool.not_false, ↓kN, ↓kO, kP, List.nil_append, List.append_nil, Nat.zero_add, Nat.reduceAdd, reduceCtorEq, kR, resP, tupV, List.reverse_cons, List.reverse_nil, wfV, List.map_cons, List.map_nil, List.drop_zero, List.take_nil, Bool.and_true, true_and, and_true, V.v.injEq, Value.int.injEq, Value.bool.injEq, Bool.false_eq_true, Nat.le_refl, lg0, kV, kZ, wd, wi, wn, jZ, ↓qac, ↓qaf, ↓qaj, ↓qcb]
  simp only [br, bne_iff_ne, bne_eq_false_iff_eq]
  refine ⟨fun h => accI_f fun hO => h hO.ht, fun h3 => ?_⟩
  refine call_is (ok73 N arcs f fr hV hf hl) (by simp [Fr.enc, net, li, lendsOk, lendOk, lends, lend, wkL, wk, wkR]) rfl trivial ?_
  cases hp : prB N arcs f fr.flow fr.price with
  | false =>
    simp -implicitDefEqProofs only [qb, qi, qQ, qS, qT, qX, za, zb, zf, zg, zh, zj, zk, zv, kB, kD, kF, kI, ofConst, List.length_nil, List.length_cons, ↓reduceIte, Nat.reduceEqDiff, kL, kM, Bool.not_false, ↓kN, ↓kO, kP, List.nil_append, List.append_nil, Nat.zero_add, Nat.reduceAdd, kR, resP, tupV, List.reverse_cons, List.reverse_nil, wfV, true_and, V.v.injEq, Value.int.injEq, Value.bool.injEq, Bool.false_eq_true, jZ]
    exact accI_f fun hO => by have := prB_t hO.hp; rw [hp] at this; cases this
  | true =>
  have hp : OkP N arcs f fr.flow fr.price := by
    apply Classical.byContradiction
    intro h
    have := prB_f h; rw [hp] at this; cases this
  simp -implicitDefEqProofs only [qb, qi, qQ, qS, qT, qW, qX, za, zb, zf, zg, zh, zj, zk, zn, zp, zr, zt, zv, kx, kB, kD, kF, kI, ofConst, List.length_nil, List.length_cons, kJ, List.getD_eq_getElem?_getD, List.getElem?_cons_zero, ↓reduceIte, Nat.reduceEqDiff, Option.getD_some, kK, kL, kM, Bool.not_true, ↓kO, kP, List.nil_append, List.append_nil, Nat.zero_add, Nat.reduceAdd, Nat.add_zero, reduceCtorEq, kR, resP, tupV, List.reverse_cons, List.reverse_nil, wfV, List.map_cons, List.map_nil, List.drop_zero, List.take_nil, true_and, V.v.injEq, Value.int.injEq, Value.bool.injEq, List.length_map, Bool.false_eq_true, Nat.le_refl, lg0, kV, lg1, kZ, lg2, wd, lg3, wi, wn, jZ, ↓qaa, ↓qac, ↓qae, ↓qaf, ↓qai, ↓qaj, ↓qap, ↓qax, ↓qca, ↓qce, List.length_map]
  simp only [br, beq_iff_eq, beq_eq_false_iff_ne, decide_eq_true_eq, decide_eq_false_iff_not]
  refine ⟨fun h4 => ?_, fun h4 => ?_⟩
  · refine fun _ => ⟨fun h5 => accI_f fun hO => ?_, fun h5 => accI_t ⟨hfl, by omega, h2, h3, hp, ?_⟩⟩
    · have := hO.hc
      rw [if_pos h4] at this
      rw [this] at h5
      simp at h5
    · rw [if_pos h4]
      exact List.length_eq_zero_iff.1 (by omega)
  · refine call_is (ok74 N arcs f t fr hV hl) (by simp [Fr.enc, net, li, lendsOk, lendOk, lends, lend, wkL, wk, wkR]) rfl trivial ?_
    cases hc : cuB N arcs f t fr.flow fr.cut with
    | false =>
      simp -implicitDefEqProofs only [qX, za, zb, zf, zg, zh, zj, zv, kB, kD, kF, kI, ofConst, List.length_nil, List.length_cons, ↓reduceIte, kL, kM, Bool.not_false, ↓kN, List.nil_append, List.append_nil, Nat.zero_add, Nat.reduceAdd, kR, resP, tupV, List.reverse_cons, List.reverse_nil, wfV, true_and, V.v.injEq, Value.int.injEq, Value.bool.injEq, jZ]
      exact accI_f fun hO => by have h6 := hO.hc; rw [if_neg h4] at h6; have := cuB_t h6; rw [hc] at this; cases this
    | true =>
    have hc : OkC N arcs f t fr.flow fr.cut := by
      apply Classical.byContradiction
      intro h
      have := cuB_f h; rw [hc] at this; cases this
    simp -implicitDefEqProofs only [qW, qX, za, zb, zf, zg, zh, zj, zv, kB, kD, kF, kI, ofConst, List.length_nil, List.length_cons, ↓reduceIte, kL, kM, Bool.not_true, ↓kO, List.nil_append, List.append_nil, Nat.zero_add, Nat.reduceAdd, kR, resP, tupV, List.reverse_cons, List.reverse_nil, wfV, true_and, V.v.injEq, Value.int.injEq, Value.bool.injEq, jZ]
    exact accI_t ⟨hfl, by omega, h2, h3, hp, by rw [if_neg h4]; exact hc⟩
end Go.Fx.P.K
namespace Go.Fx.P
open Go Go.Fx Go.Proofs
set_option maxRecDepth 20000
theorem netOf_len {ps : List Spot} {rs : List Road} : (netOf ps rs).length = ps.length + (ofN ps 1 ps.length).length + (ofN ps 3 ps.length).length + rs.length := by
  simp only [netOf, nA4, nA3, nA2, nA1, List.length_append, List.length_map, List.length_range]
def nN (ps : List Spot) : Nat := 2 + 2 * ps.length
theorem nN_eq (ps : List Spot) : nodes ps = (nN ps : Int) := by simp only [nodes, nN]; omega
theorem net_val {ps : List Spot} {rs : List Road} (h : chkP ps rs = 0) : K.Val (nN ps) (netOf ps rs) := by
  obtain ⟨⟨hl, hr⟩, hc, hv⟩ := chk_caps h
  have hlen := nA4_len (ps := ps) (l := rs)
  refine ⟨by simp only [nN]; omega, by simp only [netOf]; omega, fun a ha => ?_⟩
  simp only [netOf, nA4, nA3, nA2, nA1, List.mem_append, List.mem_map, List.mem_range] at ha
  simp only [nN]
  rcases ha with ((⟨i, hi, rfl⟩ | ⟨i, hi, rfl⟩) | ⟨i, hi, rfl⟩) | ⟨r, hr2, rfl⟩
  · have := capAt_b hc i
    simp only [aP]; omega
  · have := capAt_b hc i
    have := ofN_mem hi
    simp only [aS]; omega
  · have := capAt_b hc i
    have := ofN_mem hi
    simp only [aO]; omega
  · obtain ⟨j, hj, rfl⟩ := List.getElem_of_mem hr2
    obtain ⟨h1, h2, h3, h4, h5, _⟩ := hv.h j hj hj
    simp only [aR]; omega
def FewP (ps : List Spot) (rs : List Road) : Prop := chkP ps rs = 0 ∧ ps.length ≤ 10 ∧ rs.length ≤ 25
open Classical in
noncomputable def fewB (ps : List Spot) (rs : List Road) : Bool := decide (FewP ps rs)
theorem ok19 (ps : List Spot) (rs : List Road) : Ok 19 [plant ps rs] (Is (.b (fewB ps rs))) := by
  refine ok_of lw19 (by simp) ?_
  unfold c19 plant sps rds
  simp -implicitDefEqProofs only [qX, za, zg, zh, zj, zl, zn, kx, kB, kD, kF, kI, ofConst, cells?, List.length_nil, List.length_cons, List.set_cons_zero, kJ, List.getD_eq_getElem?_getD, List.getElem?_cons_zero, ↓reduceIte, Nat.reduceEqDiff, Option.getD_some, List.nil_append, List.append_nil, Nat.zero_add, Nat.reduceAdd, Nat.add_zero, freshP, List.map_cons, List.map_nil, List.drop_zero, List.take_nil, true_and, Nat.le_refl, kV, kW, kZ, jZ, ↓qaa, ↓qac, ↓qaf, ↓qaj, cxN, args0]
  refine call_is (ok12 ps rs) (by simp [plant, sps, rds, lendsOk, lendOk, lends, lend, wkL, wk, wkR]) rfl trivial ?_
  simp -implicitDefEqProofs only [qX, za, zf, zg, zh, zi, zj, zk, zn, zp, zr, zt, kB, kD, kF, kI, ofConst, List.length_nil, List.length_cons, kJ, List.getD_eq_getElem?_getD, List.getElem?_cons_zero, ↓reduceIte, Nat.reduceEqDiff, Option.getD_some, kK, kM, Bool.not_true, ↓kN, ↓kO, kP, List.nil_append, List.append_nil, Nat.zero_add, Nat.add_zero, kR, resP, tupV, List.reverse_cons, List.reverse_nil, wfV, true_and, V.v.injEq, Value.int.injEq, Value.bool.injEq, List.length_map, lg0, jZ, ↓qaa, ↓qac, ↓qae, ↓qaf, ↓qai, ↓qap, ↓qax, ↓qca, ↓qcd, List.length_map]
  simp only [br, beq_iff_eq, beq_eq_false_iff_ne, decide_eq_true_eq, decide_eq_false_iff_not]
  have ht : FewP ps rs → true = fewB ps rs := fun h => by simp [fewB, h]
  have hf : ¬ FewP ps rs → false = fewB ps rs := fun h => by simp [fewB, h]
  have he : ∀ t : Bool, (t = true ↔ FewP ps rs) → t = fewB ps rs := fun t h => by
    cases t
    · exact hf fun h2 => by have := h.2 h2; cases this
    · exact ht (h.1 rfl)
  repeat' (first | (with_reducible refine And.intro ?_ ?_) | (with_reducible refine fun _ => ?_))
  all_goals first
    | (apply he; simp only [FewP, decide_eq_true_eq]; omega)
    | (apply hf; simp only [FewP]; omega)
    | (apply ht; simp only [FewP]; omega)
open Classical in
noncomputable def racc (ps : List Spot) (rs : List Road) (fr : Fr) : Int := if chkP ps rs = 0 then K.accI (nN ps) (netOf ps rs) 0 1 (dem ps) fr else chkP ps rs
theorem ok21 (ps : List Spot) (rs : List Road) (fr : Fr) : Ok 21 [plant ps rs, fr.enc] (Is (.i (racc ps rs fr))) := by
  refine ok_of lw21 (by simp) ?_
  unfold c21 plant sps rds Fr.enc li
  simp -implicitDefEqProofs only [qX, za, zg, zh, zj, zl, zn, kx, kB, kD, kF, kI, ofConst, cells?, List.length_nil, List.length_cons, List.set_cons_zero, kJ, List.getD_eq_getElem?_getD, List.getElem?_cons_zero, ↓reduceIte, Nat.reduceEqDiff, Option.getD_some, List.nil_append, List.append_nil, Nat.zero_add, Nat.reduceAdd, Nat.add_zero, reduceCtorEq, freshP, List.map_cons, List.map_nil, List.drop_zero, List.take_nil, true_and, Nat.le_refl, lg0, kT, kV, kW, kZ, wa, jZ, ↓qaa, ↓qac, ↓qaf, ↓qaj, cxN, args0]
  refine call_is (ok12 ps rs) (by simp [plant, sps, rds, lendsOk, lendOk, lends, lend, wkL, wk, wkR]) rfl trivial ?_
  by_cases hc : chkP ps rs = 0
  · obtain ⟨⟨hl, hr⟩, hcap, hv⟩ := chk_caps hc
    simp -implicitDefEqProofs only [qO, rdK, qP, qR, qS, qU, qW, qX, za, zb, zf, zg, zh, zj, zn, zr, kx, kB, kD, kF, kI, ofConst, List.length_nil, List.length_cons, kJ, List.getD_eq_getElem?_getD, List.getElem?_cons_zero, ↓reduceIte, Nat.reduceEqDiff, Option.getD_some, kK, kM, ↓kO, List.nil_append, List.append_nil, Nat.zero_add, Nat.reduceAdd, kR, resP, tupV, List.reverse_cons, List.reverse_nil, wfV, List.map_cons, List.map_nil, List.drop_zero, List.take_nil, Bool.and_true, true_and, and_true, V.v.injEq, Value.int.injEq, Value.bool.injEq, Nat.le_refl, lg0, kV, kZ, wd, wi, wn, jZ, ↓qac, ↓qaf, ↓qaj, ↓qcb, hc, bne_self_eq_false]
    refine call_is (ok16 ps rs hl hr hv) (by simp [plant, sps, rds, lendsOk, lendOk, lends, lend, wkL, wk, wkR]) rfl trivial ?_
    simp -implicitDefEqProofs only [qR, qU, kx, kB, kD, kI, ↓reduceIte, Nat.reduceEqDiff, List.map_cons, List.map_nil, Bool.and_true, and_true]
    refine call_is (ok18 ps rs hl hcap) (by simp [plant, sps, rds, lendsOk, lendOk, lends, lend, wkL, wk, wkR]) rfl trivial ?_
    simp -implicitDefEqProofs only [qR, qU, kx, kB, kD, kF, kI, ofConst, ↓reduceIte, Nat.reduceEqDiff, List.map_cons, List.map_nil, Bool.and_true, and_true, Bool.false_eq_true]
    have e := K.ok49 (nN ps) (netOf ps rs) 0 1 (dem ps) fr (net_val hc) ⟨by omega, by simp only [nN]; omega⟩
    rw [← nN_eq] at e
    refine call_is e (by simp [net, li, Fr.enc, lendsOk, lendOk, lends, lend, wkL, wk, wkR]) rfl trivial ?_
    simp -implicitDefEqProofs only [qa, qQ, qS, zf, zj, kB, kD, kI, ↓reduceIte, List.nil_append, kR, resP, tupV, List.reverse_cons, List.reverse_nil, wfV, true_and, V.v.injEq, Value.int.injEq, Value.bool.injEq]
    simp [racc, hc]
  · have hb : (chkP ps rs != 0) = true := by simpa using hc
    simp -implicitDefEqProofs only [qO, rdK, qP, qR, qS, qU, qW, qX, za, zb, zf, zg, zh, zj, zn, zr, kx, kB, kD, kF, kI, ofConst, List.length_nil, List.length_cons, kJ, List.getD_eq_getElem?_getD, List.getElem?_cons_zero, ↓reduceIte, Nat.reduceEqDiff, Option.getD_some, kK, kM, ↓kN, List.nil_append, List.append_nil, Nat.zero_add, Nat.reduceAdd, kR, resP, tupV, List.reverse_cons, List.reverse_nil, wfV, List.map_cons, List.map_nil, List.drop_zero, List.take_nil, Bool.and_true, true_and, and_true, V.v.injEq, Value.int.injEq, Value.bool.injEq, Nat.le_refl, lg0, kV, kZ, wd, wi, wn, jZ, ↓qac, ↓qaf, ↓qaj, ↓qcb, hb]
    simp [racc, hc]
theorem ok32 (ps : List Spot) (rs : List Road) (fr : Fr) : Ok 32 [plant ps rs, fr.enc] (Is (.b (racc ps rs fr == 0))) := by
  refine ok_of lw32 (by simp) ?_
  unfold c32 plant sps rds Fr.enc li
  simp -implicitDefEqProofs only [qX, za, zg, zh, zj, zl, zn, kx, kB, kD, kF, kI, ofConst, cells?, List.length_nil, List.length_cons, List.set_cons_zero, kJ, List.getD_eq_getElem?_getD, List.getElem?_cons_zero, ↓reduceIte, Nat.reduceEqDiff, Option.getD_some, List.nil_append, List.append_nil, Nat.zero_add, Nat.reduceAdd, Nat.add_zero, reduceCtorEq, freshP, List.map_cons, List.map_nil, List.drop_zero, List.take_nil, true_and, Nat.le_refl, lg0, kT, kV, kW, kZ, wa, wd, wi, wn, jZ, ↓qaa, ↓qac, ↓qaf, ↓qaj, cxN, args0]
  refine call_is (ok21 ps rs fr) (by simp [plant, sps, rds, li, Fr.enc, lendsOk, lendOk, lends, lend, wkL, wk, wkR]) rfl trivial ?_
  simp -implicitDefEqProofs only [qX, za, zf, zg, zh, zj, zr, kB, kD, kF, kI, ofConst, List.length_nil, List.length_cons, ↓reduceIte, kK, List.nil_append, List.append_nil, Nat.zero_add, Nat.reduceAdd, kR, resP, tupV, List.reverse_cons, List.reverse_nil, wfV, Bool.and_self, true_and, and_self, V.v.injEq, Value.int.injEq, Value.bool.injEq, jZ, ↓qca]
structure IsPlan (ps : List Spot) (rs : List Road) (fr : Fr) : Prop where
  chk : chkP ps rs = 0
  few : ps.length ≤ 10 ∧ rs.length ≤ 25
  acc : K.OkAc (nN ps) (netOf ps rs) 0 1 (dem ps) fr
theorem IsPlan.of {ps : List Spot} {rs : List Road} {fr : Fr} (h : FewP ps rs) (h2 : racc ps rs fr = 0) : IsPlan ps rs fr := by
  refine ⟨h.1, h.2, ?_⟩
  rw [racc, if_pos h.1, K.accI] at h2
  by_cases h3 : K.OkAc (nN ps) (netOf ps rs) 0 1 (dem ps) fr
  · exact h3
  · rw [if_neg h3] at h2; cases h2
set_option maxRecDepth 20000
def sumI (f : Nat → Int) : Nat → Int
  | 0 => 0
  | k + 1 => sumI f k + f k
theorem sumI_add {f : Nat → Int} (a : Nat) : ∀ b, sumI f (a + b) = sumI f a + sumI (fun i => f (a + i)) b
  | 0 => by simp [sumI]
  | b + 1 => by
    rw [← Nat.add_assoc, sumI, sumI_add a b, sumI]; omega
theorem sumI_congr {f g : Nat → Int} : ∀ {n : Nat}, (∀ i, i < n → f i = g i) → sumI f n = sumI g n
  | 0, _ => rfl
  | n + 1, h => by rw [sumI, sumI, sumI_congr fun i hi => h i (by omega), h n (by omega)]
theorem sumI_zero {f : Nat → Int} : ∀ {n : Nat}, (∀ i, i < n → f i = 0) → sumI f n = 0
  | 0, _ => rfl
  | n + 1, h => by rw [sumI, sumI_zero fun i hi => h i (by omega), h n (by omega)]; rfl
theorem sumI_neg {f : Nat → Int} : ∀ {n : Nat}, sumI (fun i => - f i) n = - sumI f n
  | 0 => rfl
  | n + 1 => by rw [sumI, sumI, sumI_neg]; omega
theorem sumI_le {f g : Nat → Int} : ∀ {n : Nat}, (∀ i, i < n → f i ≤ g i) → sumI f n ≤ sumI g n
  | 0, _ => Int.le_refl _
  | n + 1, h => by
    have h1 := sumI_le (f := f) (g := g) (n := n) fun i hi => h i (by omega)
    have h2 := h n (by omega)
    rw [sumI, sumI]; omega
theorem sumI_nn {f : Nat → Int} {n : Nat} (h : ∀ i, i < n → 0 ≤ f i) : 0 ≤ sumI f n := by
  have := sumI_le (f := fun _ => 0) (g := f) h
  rwa [sumI_zero fun _ _ => rfl] at this
theorem sumI_one {f : Nat → Int} {i : Nat} : ∀ {n : Nat}, i < n → sumI (fun k => if k = i then f k else 0) n = f i
  | n + 1, h => by
    rw [sumI]
    by_cases hi : n = i
    · subst hi
      rw [if_pos rfl, sumI_zero fun k hk => if_neg (by omega)]; omega
    · rw [if_neg hi, sumI_one (by omega)]; omega
def con (j : Int) (a : Arc) (x : Int) : Int := (if a.from_ = j then x else 0) - (if a.to = j then x else 0)
abbrev a0 : Arc := ⟨0, 0, 0, 0⟩
theorem valTo_sum {arcs : List Arc} {j : Int} {flow : List Int} : ∀ {k : Nat}, K.valTo arcs j flow k = sumI (fun i => con j (arcs.getD i a0) (flow.getD i 0)) k
  | 0 => rfl
  | k + 1 => by
    have e : arcs.getD k a0 = arcs.getD k ⟨0, 0, 0, 0⟩ := rfl
    rw [K.valTo, valTo_sum, sumI, con, e]
    split <;> split <;> omega
theorem getD_l {l m : List Arc} {i : Nat} (h : i < l.length) : (l ++ m).getD i a0 = l.getD i a0 := by
  rw [List.getD_eq_getElem?_getD, List.getElem?_append_left h, List.getD_eq_getElem?_getD]
theorem getD_r {l m : List Arc} {i n : Nat} (h : l.length = n) : (l ++ m).getD (n + i) a0 = m.getD i a0 := by
  rw [List.getD_eq_getElem?_getD, List.getElem?_append_right (by omega), List.getD_eq_getElem?_getD, show n + i - l.length = i by omega]
theorem getD_map {α : Type} {l : List α} {f : α → Arc} {i : Nat} (d : α) (h : i < l.length) : (l.map f).getD i a0 = f (l.getD i d) := by
  rw [List.getD_eq_getElem?_getD, List.getElem?_map, List.getD_eq_getElem?_getD, List.getElem?_eq_getElem h]; rfl
theorem val_parts {ps : List Spot} {rs : List Road} {flow : List Int} {j : Int} : K.valTo (netOf ps rs) j flow (netOf ps rs).length =
    sumI (fun i => con j (aP ps i) (flow.getD i 0)) ps.length +
    sumI (fun k => con j (aS ps ((ofN ps 1 ps.length).getD k 0)) (flow.getD (ps.length + k) 0)) (ofN ps 1 ps.length).length +
    sumI (fun k => con j (aO ps ((ofN ps 3 ps.length).getD k 0)) (flow.getD (ps.length + (ofN ps 1 ps.length).length + k) 0)) (ofN ps 3 ps.length).length +
    sumI (fun k => con j (aR (rs.getD k default)) (flow.getD (ps.length + (ofN ps 1 ps.length).length + (ofN ps 3 ps.length).length + k) 0)) rs.length := by
  rw [valTo_sum, netOf_len, sumI_add, sumI_add, sumI_add]
  have l3 : (nA3 ps (ofN ps 3 ps.length)).length = ps.length + (ofN ps 1 ps.length).length + (ofN ps 3 ps.length).length := by
    simp only [nA3, nA2, nA1, List.length_append, List.length_map, List.length_range]
  have l2 : (nA2 ps (ofN ps 1 ps.length)).length = ps.length + (ofN ps 1 ps.length).length := by
    simp only [nA2, nA1, List.length_append, List.length_map, List.length_range]
  have l1 : (nA1 ps ps.length).length = ps.length := nA1_len
  congr 1
  · congr 1
    · congr 1
      · refine sumI_congr fun i hi => ?_
        rw [netOf, nA4, getD_l (by omega), nA3, getD_l (by omega), nA2, getD_l (by omega), nA1, getD_map 0 (by simpa using hi)]
        rw [List.getD_eq_getElem?_getD, List.getElem?_range hi, Option.getD_some]
      · refine sumI_congr fun i hi => ?_
        rw [netOf, nA4, getD_l (by omega), nA3, getD_l (by omega), nA2, getD_r l1, getD_map 0 hi]
    · refine sumI_congr fun i hi => ?_
      rw [netOf, nA4, getD_l (by omega), nA3, getD_r l2, getD_map 0 hi]
  · refine sumI_congr fun i hi => ?_
    rw [netOf, nA4, getD_r l3, getD_map default hi]
set_option maxRecDepth 20000
theorem con_f {j x : Int} {a : Arc} (h1 : a.from_ = j) (h2 : a.to ≠ j) : con j a x = x := by rw [con, if_pos h1, if_neg h2]; omega
theorem con_t {j x : Int} {a : Arc} (h1 : a.from_ ≠ j) (h2 : a.to = j) : con j a x = -x := by rw [con, if_neg h1, if_pos h2]; omega
theorem con_n {j x : Int} {a : Arc} (h1 : a.from_ ≠ j) (h2 : a.to ≠ j) : con j a x = 0 := by rw [con, if_neg h1, if_neg h2]; rfl
def Fr.fl (fr : Fr) (k : Nat) : Int := fr.flow.getD k 0
def sS (ps : List Spot) (fr : Fr) (i : Nat) : Int := sumI (fun k => if (ofN ps 1 ps.length).getD k 0 = i then fr.fl (ps.length + k) else 0) (ofN ps 1 ps.length).length
def sO (ps : List Spot) (fr : Fr) (i : Nat) : Int := sumI (fun k => if (ofN ps 3 ps.length).getD k 0 = i then fr.fl (ps.length + (ofN ps 1 ps.length).length + k) else 0) (ofN ps 3 ps.length).length
def Fr.rd (ps : List Spot) (fr : Fr) (k : Nat) : Int := fr.fl (ps.length + (ofN ps 1 ps.length).length + (ofN ps 3 ps.length).length + k)
def sIn (ps : List Spot) (rs : List Road) (fr : Fr) (i : Nat) : Int := sumI (fun k => if (rs.getD k default).to = i then fr.rd ps k else 0) rs.length
def sOut (ps : List Spot) (rs : List Road) (fr : Fr) (i : Nat) : Int := sumI (fun k => if (rs.getD k default).from_ = i then fr.rd ps k else 0) rs.length
theorem val_in {ps : List Spot} {rs : List Road} {fr : Fr} {i : Nat} (hi : i < ps.length) : K.valTo (netOf ps rs) (2 + 2 * i : Nat) fr.flow (netOf ps rs).length = fr.fl i - sS ps fr i - sIn ps rs fr i := by
  rw [val_parts]
  have e1 : sumI (fun k => con (2 + 2 * i : Nat) (aP ps k) (fr.flow.getD k 0)) ps.length = fr.fl i := by
    rw [← sumI_one (f := fr.fl) hi]
    refine sumI_congr fun k _ => ?_
    simp only [Fr.rd, Fr.fl]
    by_cases h : k = i
    · rw [if_pos h, con_f (by simp only [aP, aS, aO, aR]; omega) (by simp only [aP, aS, aO, aR]; omega)]
    · rw [if_neg h, con_n (by simp only [aP, aS, aO, aR]; omega) (by simp only [aP, aS, aO, aR]; omega)]; try omega
  have e2 : sumI (fun k => con (2 + 2 * i : Nat) (aS ps ((ofN ps 1 ps.length).getD k 0)) (fr.flow.getD (ps.length + k) 0)) (ofN ps 1 ps.length).length = - sS ps fr i := by
    rw [sS, ← sumI_neg]
    refine sumI_congr fun k _ => ?_
    simp only [Fr.rd, Fr.fl]
    by_cases h : (ofN ps 1 ps.length).getD k 0 = i
    · rw [if_pos h, con_t (by simp only [aP, aS, aO, aR]; omega) (by simp only [aP, aS, aO, aR]; omega)]
    · rw [if_neg h, con_n (by simp only [aP, aS, aO, aR]; omega) (by simp only [aP, aS, aO, aR]; omega)]; try omega
  have e3 : sumI (fun k => con (2 + 2 * i : Nat) (aO ps ((ofN ps 3 ps.length).getD k 0)) (fr.flow.getD (ps.length + (ofN ps 1 ps.length).length + k) 0)) (ofN ps 3 ps.length).length = 0 := by
    refine sumI_zero fun k _ => ?_
    exact con_n (by simp only [aP, aS, aO, aR]; omega) (by simp only [aP, aS, aO, aR]; omega)
  have e4 : sumI (fun k => con (2 + 2 * i : Nat) (aR (rs.getD k default)) (fr.flow.getD (ps.length + (ofN ps 1 ps.length).length + (ofN ps 3 ps.length).length + k) 0)) rs.length = - sIn ps rs fr i := by
    rw [sIn, ← sumI_neg]
    refine sumI_congr fun k _ => ?_
    simp only [Fr.rd, Fr.fl]
    by_cases h : (rs.getD k default).to = i
    · rw [if_pos h, con_t (by simp only [aP, aS, aO, aR]; omega) (by simp only [aP, aS, aO, aR]; omega)]
    · rw [if_neg h, con_n (by simp only [aP, aS, aO, aR]; omega) (by simp only [aP, aS, aO, aR]; omega)]; try omega
  rw [e1, e2, e3, e4]; omega
theorem val_out {ps : List Spot} {rs : List Road} {fr : Fr} {i : Nat} (hi : i < ps.length) : K.valTo (netOf ps rs) (3 + 2 * i : Nat) fr.flow (netOf ps rs).length = sO ps fr i + sOut ps rs fr i - fr.fl i := by
  rw [val_parts]
  have e1 : sumI (fun k => con (3 + 2 * i : Nat) (aP ps k) (fr.flow.getD k 0)) ps.length = - fr.fl i := by
    rw [← sumI_one (f := fr.fl) hi, ← sumI_neg]
    refine sumI_congr fun k _ => ?_
    simp only [Fr.rd, Fr.fl]
    by_cases h : k = i
    · rw [if_pos h, con_t (by simp only [aP, aS, aO, aR]; omega) (by simp only [aP, aS, aO, aR]; omega)]
    · rw [if_neg h, con_n (by simp only [aP, aS, aO, aR]; omega) (by simp only [aP, aS, aO, aR]; omega)]; try omega
  have e2 : sumI (fun k => con (3 + 2 * i : Nat) (aS ps ((ofN ps 1 ps.length).getD k 0)) (fr.flow.getD (ps.length + k) 0)) (ofN ps 1 ps.length).length = 0 := by
    refine sumI_zero fun k _ => ?_
    exact con_n (by simp only [aP, aS, aO, aR]; omega) (by simp only [aP, aS, aO, aR]; omega)
  have e3 : sumI (fun k => con (3 + 2 * i : Nat) (aO ps ((ofN ps 3 ps.length).getD k 0)) (fr.flow.getD (ps.length + (ofN ps 1 ps.length).length + k) 0)) (ofN ps 3 ps.length).length = sO ps fr i := by
    rw [sO]
    refine sumI_congr fun k _ => ?_
    simp only [Fr.rd, Fr.fl]
    by_cases h : (ofN ps 3 ps.length).getD k 0 = i
    · rw [if_pos h, con_f (by simp only [aP, aS, aO, aR]; omega) (by simp only [aP, aS, aO, aR]; omega)]
    · rw [if_neg h, con_n (by simp only [aP, aS, aO, aR]; omega) (by simp only [aP, aS, aO, aR]; omega)]; try omega
  have e4 : sumI (fun k => con (3 + 2 * i : Nat) (aR (rs.getD k default)) (fr.flow.getD (ps.length + (ofN ps 1 ps.length).length + (ofN ps 3 ps.length).length + k) 0)) rs.length = sOut ps rs fr i := by
    rw [sOut]
    refine sumI_congr fun k _ => ?_
    simp only [Fr.rd, Fr.fl]
    by_cases h : (rs.getD k default).from_ = i
    · rw [if_pos h, con_f (by simp only [aP, aS, aO, aR]; omega) (by simp only [aP, aS, aO, aR]; omega)]
    · rw [if_neg h, con_n (by simp only [aP, aS, aO, aR]; omega) (by simp only [aP, aS, aO, aR]; omega)]; try omega
  rw [e1, e2, e3, e4]; omega
theorem val_0 {ps : List Spot} {rs : List Road} {fr : Fr} (hv : RInv ps rs rs.length) : K.valTo (netOf ps rs) 0 fr.flow (netOf ps rs).length = sumI (fun k => fr.fl (ps.length + k)) (ofN ps 1 ps.length).length := by
  rw [val_parts]
  have e1 : sumI (fun k => con 0 (aP ps k) (fr.flow.getD k 0)) ps.length = 0 := by
    refine sumI_zero fun k _ => ?_
    exact con_n (by simp only [aP, aS, aO, aR]; omega) (by simp only [aP, aS, aO, aR]; omega)
  have e2 : sumI (fun k => con 0 (aS ps ((ofN ps 1 ps.length).getD k 0)) (fr.flow.getD (ps.length + k) 0)) (ofN ps 1 ps.length).length = sumI (fun k => fr.fl (ps.length + k)) (ofN ps 1 ps.length).length := by
    refine sumI_congr fun k _ => ?_
    simp only [Fr.rd, Fr.fl]
    exact con_f rfl (by simp only [aP, aS, aO, aR]; omega)
  have e3 : sumI (fun k => con 0 (aO ps ((ofN ps 3 ps.length).getD k 0)) (fr.flow.getD (ps.length + (ofN ps 1 ps.length).length + k) 0)) (ofN ps 3 ps.length).length = 0 := by
    refine sumI_zero fun k _ => ?_
    exact con_n (by simp only [aP, aS, aO, aR]; omega) (by simp only [aP, aS, aO, aR]; omega)
  have e4 : sumI (fun k => con 0 (aR (rs.getD k default)) (fr.flow.getD (ps.length + (ofN ps 1 ps.length).length + (ofN ps 3 ps.length).length + k) 0)) rs.length = 0 := by
    refine sumI_zero fun k hk => ?_
    obtain ⟨h1, h2, _⟩ := hv.h k hk hk
    have e : rs.getD k default = rs[k] := by rw [List.getD_eq_getElem?_getD, List.getElem?_eq_getElem hk, Option.getD_some]
    rw [e]
    exact con_n (by simp only [aP, aS, aO, aR]; omega) (by simp only [aP, aS, aO, aR]; omega)
  rw [e1, e2, e3, e4]; omega
set_option maxRecDepth 20000
theorem getD_rs {rs : List Road} {k : Nat} (hk : k < rs.length) : rs.getD k default = rs[k] := by rw [List.getD_eq_getElem?_getD, List.getElem?_eq_getElem hk, Option.getD_some]
variable {ps : List Spot} {rs : List Road} {fr : Fr}
theorem IsPlan.fl_b (h : IsPlan ps rs fr) (k : Nat) : 0 ≤ fr.fl k ∧ fr.fl k ≤ 1073741824 :=
  K.flow_b ((net_val h.chk).flow h.acc.fl.hl h.acc.fl.hp) k
theorem IsPlan.len (h : IsPlan ps rs fr) : fr.flow.length = ps.length + (ofN ps 1 ps.length).length + (ofN ps 3 ps.length).length + rs.length := by
  rw [h.acc.fl.hl, netOf_len]
theorem IsPlan.caps (h : IsPlan ps rs fr) {i : Nat} (hi : i < ps.length) : fr.fl i ≤ ps[i].cap := by
  have hl := h.acc.fl.hl
  have hn := netOf_len (ps := ps) (rs := rs)
  have := (h.acc.fl.hp i (by omega) (by omega)).2
  have e : (netOf ps rs)[i]'(by omega) = aP ps i := by
    have l2 : (nA2 ps (ofN ps 1 ps.length)).length = ps.length + (ofN ps 1 ps.length).length := by
      simp only [nA2, nA1, List.length_append, List.length_map, List.length_range]
    have l3 : (nA3 ps (ofN ps 3 ps.length)).length = ps.length + (ofN ps 1 ps.length).length + (ofN ps 3 ps.length).length := by
      simp only [nA3, nA2, nA1, List.length_append, List.length_map, List.length_range]
    have l1 : (nA1 ps ps.length).length = ps.length := nA1_len
    simp only [netOf, nA4]
    rw [List.getElem_append_left (by omega)]
    simp only [nA3]
    rw [List.getElem_append_left (by omega)]
    simp only [nA2]
    rw [List.getElem_append_left (by omega)]
    simp only [nA1, List.getElem_map, List.getElem_range]
  rw [e] at this
  rw [Fr.fl, List.getD_eq_getElem?_getD, List.getElem?_eq_getElem (by omega), Option.getD_some]
  have e2 := capAt_lt hi
  simp only [aP] at this
  omega
theorem IsPlan.e_in (h : IsPlan ps rs fr) {i : Nat} (hi : i < ps.length) : fr.fl i = sS ps fr i + sIn ps rs fr i := by
  have h1 := val_in (rs := rs) (fr := fr) hi
  have h2 := h.acc.fl.hz (2 + 2 * i : Nat) (by omega) (by simp only [nN]; omega) (by omega) (by omega)
  omega
theorem IsPlan.e_out (h : IsPlan ps rs fr) {i : Nat} (hi : i < ps.length) : fr.fl i = sO ps fr i + sOut ps rs fr i := by
  have h1 := val_out (rs := rs) (fr := fr) hi
  have h2 := h.acc.fl.hz (3 + 2 * i : Nat) (by omega) (by simp only [nN]; omega) (by omega) (by omega)
  omega
theorem IsPlan.sent (h : IsPlan ps rs fr) : sumI (fun k => fr.fl (ps.length + k)) (ofN ps 1 ps.length).length = fr.sent := by
  rw [← h.acc.hv, val_0 (chk_caps h.chk).2.2]
theorem IsPlan.snd (h : IsPlan ps rs fr) {k : Nat} (hk : k < rs.length) : SoundP ps rs[k] := (chk_caps h.chk).2.2.h k hk hk
set_option maxRecDepth 20000
def addA : List Allot → Int → Int → Int → List Allot
  | [], g, o, n => [⟨g, o, n⟩]
  | x :: L, g, o, n => if x.gate = g ∧ x.origin = o then ⟨g, o, x.n + n⟩ :: L else x :: addA L g o n
def sameG (g o : Int) (x : Allot) : Bool := x.gate == g && x.origin == o
theorem addA_new {g o n : Int} : ∀ {L : List Allot}, L.any (sameG g o) = false → addA L g o n = L ++ [⟨g, o, n⟩]
  | [], _ => rfl
  | x :: L, h => by
    simp only [List.any_cons, Bool.or_eq_false_iff, sameG, Bool.and_eq_false_iff, beq_eq_false_iff_ne] at h
    rw [addA, if_neg (by omega), addA_new (by simpa [sameG] using h.2)]
    rfl
theorem addA_old {g o n : Int} : ∀ {L : List Allot}, L.any (sameG g o) = true → ∃ h : L.findIdx (sameG g o) < L.length, addA L g o n = L.set (L.findIdx (sameG g o)) ⟨L[L.findIdx (sameG g o)].gate, L[L.findIdx (sameG g o)].origin, L[L.findIdx (sameG g o)].n + n⟩
  | [], h => by cases h
  | x :: L, h => by
    cases hx : sameG g o x with
    | true =>
      have h2 := hx
      simp only [sameG, Bool.and_eq_true, beq_iff_eq] at h2
      have e : (x :: L).findIdx (sameG g o) = 0 := by simp [List.findIdx_cons, hx]
      refine ⟨by rw [e]; simp, ?_⟩
      simp only [e, List.set_cons_zero, List.getElem_cons_zero]
      rw [addA, if_pos h2, h2.1, h2.2]
    | false =>
      have h2 := hx
      simp only [sameG, Bool.and_eq_false_iff, beq_eq_false_iff_ne] at h2
      simp only [List.any_cons, hx, Bool.false_or] at h
      obtain ⟨h3, h4⟩ := addA_old (n := n) h
      have e : (x :: L).findIdx (sameG g o) = L.findIdx (sameG g o) + 1 := by simp [List.findIdx_cons, hx]
      refine ⟨by rw [e]; simpa using h3, ?_⟩
      simp only [e, List.set_cons_succ, List.getElem_cons_succ]
      rw [addA, if_neg (by omega), h4]
def sumL (p : Int → Int → Bool) : List Allot → Int
  | [] => 0
  | x :: L => (if p x.gate x.origin then x.n else 0) + sumL p L
theorem sumL_add {p : Int → Int → Bool} {g o n : Int} : ∀ {L : List Allot}, sumL p (addA L g o n) = sumL p L + (if p g o then n else 0)
  | [] => by simp [addA, sumL]
  | x :: L => by
    rw [addA]
    by_cases h : x.gate = g ∧ x.origin = o
    · rw [if_pos h, sumL, sumL, h.1, h.2]
      by_cases h2 : p g o = true
      · simp only [if_pos h2]; omega
      · simp only [if_neg h2]; omega
    · rw [if_neg h, sumL, sumL, sumL_add]; omega
theorem addA_len {g o n : Int} : ∀ {L : List Allot}, (addA L g o n).length ≤ L.length + 1
  | [] => by simp [addA]
  | x :: L => by
    rw [addA]
    by_cases h : x.gate = g ∧ x.origin = o
    · rw [if_pos h]; simp
    · rw [if_neg h]; simp only [List.length_cons]; have := addA_len (g := g) (o := o) (n := n) (L := L); omega
def inB (L : List Allot) (B : Int) : Prop := ∀ a ∈ L, 0 ≤ a.n ∧ a.n ≤ B
theorem addA_in {g o n B : Int} (hn : 0 ≤ n ∧ n ≤ 1073741824) : ∀ {L : List Allot}, inB L B → 0 ≤ B → inB (addA L g o n) (B + 1073741824)
  | [], _, _ => fun a ha => by
    rw [addA] at ha
    obtain rfl := List.mem_singleton.1 ha
    simp only; omega
  | x :: L, h, hB => fun a ha => by
    have hx := h x List.mem_cons_self
    have hr := fun b hb => h b (List.mem_cons_of_mem _ hb)
    rw [addA] at ha
    by_cases h2 : x.gate = g ∧ x.origin = o
    · rw [if_pos h2] at ha
      rcases List.mem_cons.1 ha with rfl | ha
      · simp only; omega
      · have := hr a ha; omega
    · rw [if_neg h2] at ha
      rcases List.mem_cons.1 ha with rfl | ha
      · omega
      · exact addA_in hn hr hB a ha
abbrev rdF (ps : List Spot) (rs : List Road) (k : Nat) : Spot := ps.getD (rs.getD k default).from_.toNat default
abbrev rdT (ps : List Spot) (rs : List Road) (k : Nat) : Spot := ps.getD (rs.getD k default).to.toNat default
def alN (ps : List Spot) (rs : List Road) (fr : Fr) : Nat → List Allot
  | 0 => []
  | k + 1 => if (rdF ps rs k).kind = 2 ∧ (rdT ps rs k).kind = 3 then addA (alN ps rs fr k) (rdF ps rs k).num (rdT ps rs k).num (fr.rd ps k) else alN ps rs fr k
variable {ps : List Spot} {rs : List Road} {fr : Fr}
theorem alN_len : ∀ {k : Nat}, (alN ps rs fr k).length ≤ k
  | 0 => Nat.le_refl _
  | k + 1 => by
    have := alN_len (k := k)
    rw [alN]
    split
    · have := addA_len (g := (rdF ps rs k).num) (o := (rdT ps rs k).num) (n := fr.rd ps k) (L := alN ps rs fr k); omega
    · omega
theorem alN_in (hf : ∀ k, 0 ≤ fr.fl k ∧ fr.fl k ≤ 1073741824) : ∀ {k : Nat}, inB (alN ps rs fr k) (k * 1073741824)
  | 0 => fun a ha => by cases ha
  | k + 1 => by
    have := alN_in hf (k := k)
    rw [alN]
    split
    · have h2 := addA_in (g := (rdF ps rs k).num) (o := (rdT ps rs k).num) (n := fr.rd ps k) (hf _) this (by omega)
      intro a ha
      have := h2 a ha
      omega
    · intro a ha
      have := this a ha
      omega
theorem alN_sum {p : Int → Int → Bool} : ∀ {k : Nat}, sumL p (alN ps rs fr k) = sumI (fun k => if (rdF ps rs k).kind = 2 ∧ (rdT ps rs k).kind = 3 ∧ p (rdF ps rs k).num (rdT ps rs k).num = true then fr.rd ps k else 0) k
  | 0 => rfl
  | k + 1 => by
    rw [alN, sumI, ← alN_sum]
    split
    · rename_i h
      rw [sumL_add]
      by_cases h2 : p (rdF ps rs k).num (rdT ps rs k).num = true
      · rw [if_pos h2, if_pos ⟨h.1, h.2, h2⟩]
      · rw [if_neg h2, if_neg fun h3 => h2 h3.2.2]
    · rename_i h
      rw [if_neg fun h3 => h ⟨h3.1, h3.2.1⟩]; omega
set_option maxRecDepth 20000
set_option maxHeartbeats 1000000
abbrev keyG (x : Allot) : Value := .agg #[.int .i64 x.gate, .int .i64 x.origin]
def entsG : List Allot → Nat → List (Value × V × Nat)
  | [], _ => []
  | x :: l, i => (keyG x, .i i, i) :: entsG l (i + 1)
theorem entsG_app : ∀ {l : List Allot} {i : Nat} {x : Allot}, entsG (l ++ [x]) i = entsG l i ++ [(keyG x, .i ((i + l.length : Nat) : Int), i + l.length)]
  | [], i, x => rfl
  | y :: l, i, x => by
    simp only [List.cons_append, entsG, entsG_app, List.length_cons]
    rw [show i + 1 + l.length = i + (l.length + 1) by omega]
theorem entsG_set {g o : Int} : ∀ {l : List Allot} {i j : Nat} {n : Int}, entsG (l.set j ⟨(l.getD j default).gate, (l.getD j default).origin, n⟩) i = entsG l i
  | [], _, _, _ => rfl
  | x :: l, i, 0, n => rfl
  | x :: l, i, j + 1, n => by
    simp only [List.set_cons_succ, entsG]
    have := entsG_set (g := g) (o := o) (l := l) (i := i + 1) (j := j) (n := n)
    rw [show (x :: l).getD (j + 1) default = l.getD j default from rfl, this]
theorem entsG_set' {l : List Allot} {i j : Nat} {n : Int} (h : j < l.length) : entsG (l.set j ⟨l[j].gate, l[j].origin, n⟩) i = entsG l i := by
  have := entsG_set (g := 0) (o := 0) (l := l) (i := i) (j := j) (n := n)
  rwa [List.getD_eq_getElem?_getD, List.getElem?_eq_getElem h, Option.getD_some] at this
theorem entsG_kill {K : List Nat} : ∀ {l : List Allot} {i : Nat}, (entsG l i).map (fun e => (e.1, kill K e.2.1, e.2.2)) = entsG l i
  | [], _ => rfl
  | x :: l, i => by
    simp only [entsG, List.map_cons, entsG_kill]
    rfl
abbrev alK : List (Nat × TypeDesc) := [(0, .int .i64), (1, .int .i64)]
theorem entsG_keys : ∀ {l : List Allot} {i : Nat}, keysA alK (entsG l i)
  | [], _ => fun e he => by cases he
  | x :: l, i => fun e he => by
    rcases List.mem_cons.1 he with rfl | he
    · exact ⟨_, rfl, rfl, rfl⟩
    · exact entsG_keys e he
theorem entsG_wf {h : List Blk} : ∀ {l : List Allot} {i : Nat}, wfL h ((entsG l i).map fun x => x.2.1)
  | [], _ => by simp [entsG, wfL]
  | x :: l, i => by
    simp only [entsG, List.map_cons, wfL]
    exact ⟨by simp [wfV], entsG_wf⟩
theorem mfG {g o : Int} : ∀ {l : List Allot} {i j : Nat}, mfindA [.int .i64 g, .int .i64 o] (entsG l i) j = if l.any (sameG g o) then some (j + l.findIdx (sameG g o), .i ((i + l.findIdx (sameG g o) : Nat) : Int)) else none
  | [], i, j => rfl
  | y :: l, i, j => by
    simp only [entsG, mfindA, mfG]
    have key : (List.zip [Value.int .i64 g, .int .i64 o] (#[Value.int .i64 y.gate, .int .i64 y.origin] : Array Value).toList).all (fun p => eqK p.1 p.2) = sameG g o y := by
      simp [eqK, sameG, eq_comm, Bool.beq_comm]
    rw [key]
    cases h : sameG g o y with
    | true => simp [h, List.findIdx_cons]
    | false =>
      simp only [List.any_cons, h, Bool.false_or, List.findIdx_cons, Bool.false_eq_true, if_false, cond_false]
      by_cases h2 : l.any (sameG g o) = true
      · simp only [h2, if_true]
        rw [show j + 1 + l.findIdx (sameG g o) = j + (l.findIdx (sameG g o) + 1) by omega, show i + 1 + l.findIdx (sameG g o) = i + (l.findIdx (sameG g o) + 1) by omega]
      · simp only [h2, Bool.false_eq_true, if_false]
variable {ps : List Spot} {rs : List Road} {fr : Fr}
theorem getD_ps {i : Nat} (h : i < ps.length) : ps.getD i default = ps[i] := by rw [List.getD_eq_getElem?_getD, List.getElem?_eq_getElem h, Option.getD_some]
def hA (ps : List Spot) (rs : List Road) (fr : Fr) (L : List Allot) : List Blk :=
  [.var [.ro 3 (ps.map Spot.enc), .ro 4 (rs.map Road.enc)], .var [.i fr.sent, .i fr.cost, .ro 1 (fr.flow.map encI), .ro 1 (fr.price.map encI), .ro 1 (fr.cut.map encI)], .map (entsG L 0) L.length, .arr 3 (L.map Allot.enc)]
theorem ok30 (ps : List Spot) (rs : List Road) (fr : Fr) (h : IsPlan ps rs fr) : Ok 30 [plant ps rs, fr.enc] (Is (als (alN ps rs fr rs.length))) := by
  refine okN_give (R := fun r hs => wk (als (alN ps rs fr rs.length)) (gvV (fun _ => true) hs r)) ?_ fun _ _ h => h
  refine ok_of lw30 (by simp) ?_
  unfold c30 plant sps rds Fr.enc li
  have hlen := h.len
  have hb := h.fl_b
  simp -implicitDefEqProofs only [qX, za, zc, zd, zg, zh, zj, zl, zn, zp, zr, zt, zB, zN, kB, kD, kF, kI, ofConst, cells?, List.length_nil, List.length_cons, List.set_cons_zero, kJ, List.getD_eq_getElem?_getD, List.getElem?_cons_zero, ↓reduceIte, Nat.reduceEqDiff, Option.getD_some, kK, List.nil_append, List.cons_append, List.append_nil, Nat.zero_add, Nat.reduceAdd, Nat.add_zero, reduceCtorEq, freshP, Option.map_some, Option.map_none, slcOk, Option.getD_none, Bool.and_self, true_and, and_self, List.length_map, lg0, kT, kW, lg1, kX, wa, jZ, ↓qaa, ↓qac, ↓qae, ↓qai, ↓qap, ↓qax, ↓qaN, ↓qaO, ↓qaQ, ↓qbW, List.length_map, Int.toNat_natCast, cxN, args0]
  intro hm1 hm2
  have hq : ((fr.flow.length : Int) - (rs.length : Int)).toNat = ps.length + (ofN ps 1 ps.length).length + (ofN ps 3 ps.length).length := by omega
  have hs : List.take (fr.flow.length - ((fr.flow.length : Int) - (rs.length : Int)).toNat) (List.drop ((fr.flow.length : Int) - (rs.length : Int)).toNat (List.map encI fr.flow)) = (fr.flow.drop (ps.length + (ofN ps 1 ps.length).length + (ofN ps 3 ps.length).length)).map encI := by
    rw [hq, List.map_drop, List.take_of_length_le (by simp)]
  rw [hs]
  have hFl : (fr.flow.drop (ps.length + (ofN ps 1 ps.length).length + (ofN ps 3 ps.length).length)).length = rs.length := by rw [List.length_drop]; omega
  have hFk : ∀ k (hk : k < (fr.flow.drop (ps.length + (ofN ps 1 ps.length).length + (ofN ps 3 ps.length).length)).length), (fr.flow.drop (ps.length + (ofN ps 1 ps.length).length + (ofN ps 3 ps.length).length))[k] = fr.rd ps k := by
    intro k hk
    rw [Fr.rd, Fr.fl, List.getElem_drop, List.getD_eq_getElem?_getD, List.getElem?_eq_getElem (by omega), Option.getD_some]
  generalize fr.flow.drop (ps.length + (ofN ps 1 ps.length).length + (ofN ps 3 ps.length).length) = FL at *
  refine ⟨by simp only [lo, hi, maxLen] at *; omega, ⟨by omega, by omega⟩, fun _ => ?_⟩
  refine loopP_ghost (.virt 1 3 (by decide) (.nilE 5 3 rfl (.refl _))) (fun k : Nat => ⟨[(28, .i k), (27, .i rs.length), (26, .ro 4 (rs.map Road.enc)), (7, .ro 1 (FL.map encI)), (6, .mp 2), (5, .sl 3 0 (alN ps rs fr k).length), (3, .ptr 1 0 0), (2, .ptr 0 0 0)], hA ps rs fr (alN ps rs fr k), 0⟩) (fun k => k ≤ rs.length) (fun k => rs.length - k) 0 (by omega) ?_ ?_
  · simp -implicitDefEqProofs only [kI, List.length_nil, List.getElem?_cons_zero, ↓reduceIte, Nat.reduceEqDiff, List.nil_append, List.cons_append, kS, leE, leH, leB, leV, leVs, keepP, liveP, wfE, wfB, wfV, wfL, List.map_nil, Bool.and_self, and_self, lg0, kW, lg1, lg2, jZ, Int.natCast_zero, alN, hA, entsG]
  rintro k hk
  unfold c30l0 hA
  simp -implicitDefEqProofs only [qc, qd, qO, rdK, qP, qQ, qR, qS, qU, qW, qX, qY, za, zb, zc, ze, zf, zg, zh, zi, zj, zk, zm, zn, zo, zp, zq, zr, zt, zv, zC, zH, zJ, kp, kq, ky, kB, kC, kD, kF, kI, ofConst, cells?, List.length_nil, List.length_cons, List.set_cons_zero, splice, kJ, List.getD_eq_getElem?_getD, List.getElem?_cons_zero, ↓reduceIte, Nat.reduceEqDiff, Option.getD_some, kK, arrSz, kM, Bool.not_false, ↓kN, ↓kO, kP, List.nil_append, List.cons_append, List.append_nil, Nat.zero_add, Nat.reduceAdd, Nat.add_zero, reduceCtorEq, freshP, buildP, litsP, kS, leE, leH, leB, leV, leVs, keepP, liveP, wfE, wfB, wfV, wfL, killE, killB, kill, kills, St.kill, List.map_cons, List.map_nil, List.drop_zero, List.take_zero, List.take_nil, List.drop_nil, List.all_cons, List.all_nil, isD, isC, Bool.and_true, Bool.and_self, true_and, and_true, and_self, V.v.injEq, Value.int.injEq, Value.bool.injEq, List.mem_cons, List.not_mem_nil, or_false, false_or, List.length_append, List.length_map, not_false_eq_true, Bool.false_eq_true, Nat.reduceLT, Nat.reduceLeDiff, Nat.le_refl, lg0, kT, kU, kV, kW, lg1, kX, kY, wa, lg2, wb, wc, lg3, wg, wh, lg4, wl, lg5, wq, lg6, wv, jZ, ↓qaa, ↓qac, ↓qad, ↓qae, ↓qaf, ↓qag, ↓qai, ↓qaj, ↓qak, ↓qam, ↓qan, ↓qap, ↓qar, ↓qas, ↓qaw, ↓qaH, ↓qaI, ↓qaY, ↓qaZ, ↓qbz, ↓qbB, ↓qbF, ↓qbG, ↓qbU, ↓qcb, ↓qcc, List.length_map, List.getElem_map, al_2, sp_len, sp_take, sp_0, sp_1, sp_isC, rd_len, rd_take, rd_0, rd_1, rd_isC, encI_0, Int.toNat_natCast]
  simp only [br, Int.toNat_natCast, decide_eq_true_eq, decide_eq_false_iff_not]
  refine ⟨fun h1 => ?_, fun h1 => ?_⟩
  · have hkl : k < rs.length := by omega
    obtain ⟨s1, s2, _⟩ := h.snd hkl
    refine ⟨⟨by omega, h1⟩, hkl, ?_⟩
    have eF : rdF ps rs k = ps[rs[k].from_.toNat]'(by omega) := by rw [rdF, getD_rs hkl, getD_ps]
    have eT : rdT ps rs k = ps[rs[k].to.toNat]'(by omega) := by rw [rdT, getD_rs hkl, getD_ps]
    have hst := alN.eq_2 ps rs fr k
    rw [eF, eT] at hst
    have hFk := hFk k (by omega)
    have hlk := alN_len (ps := ps) (rs := rs) (fr := fr) (k := k)
    have hin := alN_in (ps := ps) (rs := rs) hb (k := k)
    have hfr := hb (ps.length + (ofN ps 1 ps.length).length + (ofN ps 3 ps.length).length + k)
    rw [show fr.fl (ps.length + (ofN ps 1 ps.length).length + (ofN ps 3 ps.length).length + k) = fr.rd ps k from rfl] at hfr
    simp only [hFk]
    have h25 := h.few.2
    generalize hL : alN ps rs fr k = L at *
    generalize fr.rd ps k = n at *
    simp only [lo, hi, maxLen] at *
    refine ⟨⟨by omega, by omega⟩, by omega, ⟨by omega, by omega⟩, by omega, fun h3 => ?_, fun h3 => ⟨fun h4 => ?_, fun h4 => ?_⟩⟩
    · rw [if_neg (by simp only [bne_iff_ne] at h3; omega)] at hst
      refine ⟨by omega, k + 1, ⟨by omega, by omega⟩, ⟨by omega, by rw [hst]⟩, ⟨by rw [hst], by rw [hst]⟩, entsG_wf⟩
    · rw [if_neg (by simp only [bne_iff_ne] at h4; omega)] at hst
      refine ⟨by omega, k + 1, ⟨by omega, by omega⟩, ⟨by omega, by rw [hst]⟩, ⟨by rw [hst], by rw [hst]⟩, entsG_wf⟩
    rw [if_pos ⟨by simpa using h3, by simpa using h4⟩] at hst
    generalize ps[rs[k].from_.toNat].num = g at *
    generalize ps[rs[k].to.toNat].num = o at *
    simp only [mfG]
    refine ⟨rfl, entsG_keys, ?_⟩
    cases hany : L.any (sameG g o) with
    | true =>
      obtain ⟨h5, h6⟩ := addA_old (n := n) hany
      generalize L.findIdx (sameG g o) = j at *
      simp only [if_true, lookK, tupK, optK, List.getElem?_cons_zero, List.getElem?_cons_succ, boolK, intK, Bool.not_true, Bool.false_eq_true, false_implies, true_implies, true_and]
      simp only [Nat.zero_add, Int.toNat_natCast]
      have hj := hin _ (List.getElem_mem h5)
      have hst : alN ps rs fr (k + 1) = _ := hst
      rw [h6] at hst
      refine ⟨⟨by omega, by omega⟩, h5, ⟨by omega, by omega⟩, by omega, ⟨by omega, by omega⟩, ⟨by omega, by omega⟩, h5, by omega, k + 1, ⟨by omega, by omega⟩, ⟨by omega, by rw [hst, List.length_set]⟩, ⟨by rw [hst, List.length_set, entsG_set' h5], ?_⟩, entsG_wf⟩
      rw [hst, List.map_set]
      rfl
    | false =>
      have h6 := addA_new (n := n) hany
      have hst : alN ps rs fr (k + 1) = _ := hst
      rw [h6] at hst
      have hR : List.take L.length (L.map Allot.enc) = L.map Allot.enc := List.take_of_length_le (by simp)
      have hg : ∀ (r : List V) (h : L.length < (L.map Allot.enc ++ [r]).length), (L.map Allot.enc ++ [r])[L.length] = r := by
        intro r h
        rw [List.getElem_append_right (by simp)]; simp
      have hs : ∀ (r t : List V), (L.map Allot.enc ++ [r]).set L.length t = L.map Allot.enc ++ [t] := by
        intro r t
        rw [List.set_append_right _ _ (by simp)]; simp
      simp only [Bool.false_eq_true, if_false, if_true, lookK, ofConst, tupK, optK, List.getElem?_cons_zero, List.getElem?_cons_succ, boolK, intK, Bool.not_false, Bool.true_eq_false, false_implies, true_implies, true_and, and_true, msetK, hR, hg, hs]
      simp only [List.map_append, entsG_kill]
      refine fun _ => ⟨rfl, entsG_keys, by omega, ⟨by omega, by omega⟩, by simp, ⟨by omega, by omega⟩, by omega, ⟨by omega, by omega⟩, ⟨by omega, by omega⟩, by simp, by omega, k + 1, ⟨by omega, by omega⟩, ⟨by omega, by rw [hst]; simp⟩, ⟨?_, ?_⟩, entsG_wf⟩
      · rw [hst, entsG_app, List.length_append, Nat.zero_add]; rfl
      · rw [hst, List.map_append, Int.zero_add]; rfl
  · have hk : k = rs.length := by omega
    subst hk
    simp [qa, qb, qc, qd, qe, qf, qh, qi, qj, qk, ql, qm, qn, qo, qp, qq, qr, qt, qu, qv, qw, qx, qy, qz, qA, qB, qC, qD, qE, qF, qG, qH, qI, qJ, qK, qL, qM, qN, qO, rdK, qP, qQ, qR, qS, qT, qU, qV, qW, qX, qY, qZ, za, zb, zc, zd, ze, zf, zg, zh, zi, zj, zk, zl, zm, zn, zo, zp, zq, zr, zt, zu, zv, zw, zx, zy, zz, zA, zB, zC, zD, zE, zF, zG, zH, zI, zJ, zK, zL, zM, zN, zO, zP, zQ, zR, zS, zT, zU, zV, zW, zX, zY, zZ, ka, kc, ke, kf, kg, kh, ki, kj, kk, kn, ko, kp, kq, kr, kv, kw, kx, ky, kz, kA, kB, kC, kD, kF, kG, kH, kI, ofConst, cells?, List.length_nil, List.length_cons, List.set_cons_zero, splice, kJ, List.getD_eq_getElem?_getD, List.getElem?_cons_zero, ↓reduceIte, Nat.reduceEqDiff, Option.getD_some, kK, kL, arrSz, kM, Bool.not_true, Bool.not_false, ↓kN, ↓kO, kP, kQ, List.nil_append, List.cons_append, List.append_nil, Nat.zero_add, Nat.reduceAdd, Nat.add_zero, reduceCtorEq, freshP, Option.map_some, Option.map_none, slcOk, Option.getD_none, buildP, litsP, kR, resP, tupV, List.reverse_cons, List.reverse_nil, kS, leE, leH, leB, leV, leVs, keepP, liveP, wfE, wfB, wfV, wfL, killE, killB, kill, kills, St.kill, List.map_cons, List.map_nil, List.drop_zero, List.take_zero, List.take_nil, List.drop_nil, List.all_cons, List.all_nil, isD, isC, Bool.and_true, Bool.and_self, true_and, and_true, and_self, V.v.injEq, Value.int.injEq, Value.bool.injEq, List.mem_cons, List.not_mem_nil, or_false, false_or, List.length_append, List.length_map, List.length_replicate, not_false_eq_true, Bool.false_eq_true, Nat.reduceLT, Nat.reduceLeDiff, Nat.le_refl, lg0, kT, kU, kV, kW, lg1, kX, kY, kZ, wa, lg2, wb, wc, wd, we, lg3, wg, wh, wi, wj, lg4, wl, wm, wn, wo, lg5, wq, wr, wt, wu, lg6, wv, ww, wx, wy, lg7, wz, wB, wC, wD, lg8, wE, wF, wG, wH, lg9, wI, wJ, wK, wL, wM, wN, wO, wQ, wR, wS, wT, wU, wV, wW, wX, wY, wZ, ja, jb, jc, jd, je, jf, jg, jh, ji, jj, jk, jl, jm, jn, jo, jp, jq, jr, jt, ju, jv, jx, jy, jz, jA, jB, jC, jD, jE, jF, jG, jH, jI, jJ, jK, jL, jM, jN, jO, jP, jQ, jR, jS, jT, jU, jV, jW, jX, jY, jZ, ↓qaa, ↓qab, ↓qac, ↓qad, ↓qae, ↓qaf, ↓qag, ↓qah, ↓qai, ↓qaj, ↓qak, ↓qal, ↓qam, ↓qan, ↓qao, ↓qap, ↓qaq, ↓qar, ↓qas, ↓qat, ↓qau, ↓qav, ↓qaw, ↓qax, ↓qay, ↓qaz, ↓qaA, ↓qaB, ↓qaC, ↓qaD, ↓qaE, ↓qaF, ↓qaG, ↓qaH, ↓qaI, ↓qaJ, ↓qaK, ↓qaL, ↓qaM, ↓qaN, ↓qaO, ↓qaP, ↓qaQ, ↓qaR, ↓qaS, ↓qaT, ↓qaU, ↓qaV, ↓qaW, ↓qaX, ↓qaY, ↓qaZ, ↓qba, ↓qbb, ↓qbc, ↓qbd, ↓qbe, ↓qbf, ↓qbg, ↓qbh, ↓qbi, ↓qbj, ↓qbk, ↓qbl, ↓qbm, ↓qbn, ↓qbo, ↓qbp, ↓qbq, ↓qbr, ↓qbs, ↓qbt, ↓qbu, ↓qbv, ↓qbw, ↓qbx, ↓qby, ↓qbz, ↓qbA, ↓qbB, ↓qbC, ↓qbD, ↓qbE, ↓qbF, ↓qbG, ↓qbH, ↓qbI, ↓qbJ, ↓qbK, ↓qbL, ↓qbM, ↓qbN, ↓qbO, ↓qbP, ↓qbQ, ↓qbR, ↓qbS, ↓qbT, ↓qbU, ↓qbV, ↓qbW, ↓qbX, ↓qbY, ↓qbZ, ↓qca, ↓qcb, ↓qcc, ↓qcd, ↓qce, ↓qcf, ↓qcg, ↓qch, ↓qci, List.length_map, List.getElem_map, al_len, al_take, al_0, al_1, al_2, al_isC, al_isD, sp_len, sp_take, sp_0, sp_1, sp_2, sp_isC, sp_isD, rd_len, rd_take, rd_0, rd_1, rd_2, rd_3, rd_isC, rd_isD, enc_len, enc_take, enc_0, enc_1, enc_2, enc_3, enc_isC, enc_isD, encI_len, encI_0, encB_len, encB_0, Int.toNat_natCast, encI_drop, encB_drop, cxN, retP_eq]
    exact ⟨_, ⟨leH_rf _, by simp, by simp [wfB, wfL, wfV, liveP]; exact entsG_wf⟩, by simp [gvV, gvL, wk, wkR, wkL, blk, als]; exact List.take_of_length_le (by simp)⟩
set_option maxRecDepth 20000
variable {ps : List Spot} {rs : List Road} {fr : Fr}
theorem chk_eAt (h : chkP ps rs = 0) : ∀ i, i < ps.length → eAt ps i = 0 := by
  unfold chkP at h
  by_cases h1 : 100 < ps.length ∨ 1500 < rs.length
  · rw [if_pos h1] at h; cases h
  rw [if_neg h1] at h
  by_cases h2 : firstE (eAt ps) ps.length 0 ≠ 0
  · rw [if_pos h2] at h; exact absurd h h2
  have key : ∀ n i, i ≤ n → i < ps.length → eAt ps i = 0 := by
    intro n
    induction n with
    | zero =>
      intro i hi hil
      by_cases h4 : eAt ps i = 0
      · exact h4
      · exact absurd (firstE_at (n := ps.length) (k := 0) (by omega) (by omega) (fun j _ hj => by omega) h4) (by simp only [ne_eq, Classical.not_not] at h2; rw [h2]; exact fun h5 => h4 h5.symm)
    | succ n ih =>
      intro i hi hil
      by_cases h4 : eAt ps i = 0
      · exact h4
      · exact absurd (firstE_at (n := ps.length) (k := 0) (by omega) (by omega) (fun j _ hj => ih j (by omega) (by omega)) h4) (by simp only [ne_eq, Classical.not_not] at h2; rw [h2]; exact fun h5 => h4 h5.symm)
  exact fun i hi => key i i (Nat.le_refl _) hi
theorem uniq_lt (h : chkP ps rs = 0) {i j : Nat} (hi : i < ps.length) (hj : j < i) : ¬ (ps[i].kind = ps[j].kind ∧ ps[i].num = ps[j].num) := by
  intro h2
  have h3 := chk_eAt h i hi
  rw [eAt_lt hi, tw_true hi hj (by simp only [sameS, Bool.and_eq_true, beq_iff_eq]; exact h2)] at h3
  split at h3 <;> cases h3
theorem uniq (h : chkP ps rs = 0) {i j : Nat} (hi : i < ps.length) (hj : j < ps.length) (h1 : ps[i].kind = ps[j].kind) (h2 : ps[i].num = ps[j].num) : i = j := by
  rcases Nat.lt_trichotomy i j with h3 | h3 | h3
  · exact absurd ⟨h1.symm, h2.symm⟩ (uniq_lt h hj h3)
  · exact h3
  · exact absurd ⟨h1, h2⟩ (uniq_lt h hi h3)
def cP (x : Spot) (g o : Int) : Bool := (x.kind == 2 && g == x.num) || (x.kind == 3 && o == x.num)
theorem IsPlan.le_fl (h : IsPlan ps rs fr) {i : Nat} (hi : i < ps.length) : sumL (cP ps[i]) (alN ps rs fr rs.length) ≤ fr.fl i := by
  have hb := h.fl_b
  have hr : ∀ k, 0 ≤ fr.rd ps k := fun k => (hb _).1
  rw [alN_sum]
  by_cases h2 : ps[i].kind = 2
  · have h1 := h.e_out hi
    have h3 : 0 ≤ sO ps fr i := sumI_nn fun k _ => by split <;> first | exact (hb _).1 | omega
    refine Int.le_trans (sumI_le (g := fun k => if (rs.getD k default).from_ = i then fr.rd ps k else 0) fun k hk => ?_) (by rw [sOut] at h1; omega)
    have h4 := hr k
    obtain ⟨⟨s1, s2⟩, _, _⟩ := h.snd hk
    split
    · rename_i h5
      rw [rdF, getD_rs hk, getD_ps (by omega)] at h5
      have h6 := h5.2.2
      simp only [cP, h2, Bool.or_eq_true, Bool.and_eq_true, beq_iff_eq] at h6
      have h7 : rs[k].from_.toNat = i := uniq h.chk (by omega) hi (by rw [h2]; exact h5.1) (by omega)
      rw [getD_rs hk, if_pos (by omega)]; exact Int.le_refl _
    · split <;> omega
  · by_cases h3 : ps[i].kind = 3
    · have h1 := h.e_in hi
      have h5 : 0 ≤ sS ps fr i := sumI_nn fun k _ => by split <;> first | exact (hb _).1 | omega
      refine Int.le_trans (sumI_le (g := fun k => if (rs.getD k default).to = i then fr.rd ps k else 0) fun k hk => ?_) (by rw [sIn] at h1; omega)
      have h4 := hr k
      obtain ⟨_, ⟨s1, s2⟩, _⟩ := h.snd hk
      split
      · rename_i h5
        rw [rdT, getD_rs hk, getD_ps (by omega)] at h5
        have h6 := h5.2.2
        simp only [cP, h3, Bool.or_eq_true, Bool.and_eq_true, beq_iff_eq] at h6
        have h7 : rs[k].to.toNat = i := uniq h.chk (by omega) hi (by rw [h3]; exact h5.2.1) (by omega)
        rw [getD_rs hk, if_pos (by omega)]; exact Int.le_refl _
      · split <;> omega
    · rw [sumI_zero fun k _ => if_neg fun h5 => by
        have := h5.2.2
        simp only [cP, Bool.or_eq_true, Bool.and_eq_true, beq_iff_eq] at this
        omega]
      exact (hb i).1
theorem sumL_app {p : Int → Int → Bool} : ∀ {L M : List Allot}, sumL p (L ++ M) = sumL p L + sumL p M
  | [], M => by simp [sumL]
  | x :: L, M => by rw [List.cons_append, sumL, sumL, sumL_app]; omega
theorem sumL_take {p : Int → Int → Bool} {L : List Allot} {j : Nat} (h : j < L.length) : sumL p (L.take (j + 1)) = sumL p (L.take j) + (if p L[j].gate L[j].origin then L[j].n else 0) := by
  rw [List.take_succ_eq_append_getElem h, sumL_app, sumL, sumL]; omega
theorem sumL_b {p : Int → Int → Bool} {B : Int} (hB : 0 ≤ B) : ∀ {L : List Allot}, inB L B → 0 ≤ sumL p L ∧ sumL p L ≤ B * L.length
  | [], _ => by simp [sumL]
  | x :: L, h => by
    have h1 := sumL_b hB (p := p) (L := L) fun a ha => h a (List.mem_cons_of_mem _ ha)
    have h2 := h x List.mem_cons_self
    rw [sumL, List.length_cons]
    have : B * ((L.length + 1 : Nat) : Int) = B * L.length + B := by rw [Int.natCast_add, Int.mul_add]; simp
    rw [this]
    split <;> omega
set_option maxRecDepth 20000
def sameP (x y : Allot) : Bool := x.gate == y.gate && x.origin == y.origin
theorem ok57 (x y : Allot) : OkN Try.prog 57 [.agg y.enc, .ptr 0 0 0] [.var x.enc] [] (IsA (.b (sameP x y)) [.var x.enc]) := by
  refine okN_of pol [0] lw57 (by simp) ⟨trivial, trivial⟩ (by simp) ?_
  unfold c57 Allot.enc
  simp -implicitDefEqProofs only [qX, za, zf, zg, zh, zi, zj, zk, zl, zn, zp, zr, kB, kD, kF, kI, ofConst, cells?, List.length_nil, List.length_cons, List.set_cons_zero, kJ, List.getD_eq_getElem?_getD, List.getElem?_cons_zero, ↓reduceIte, Nat.reduceEqDiff, Option.getD_some, kK, kM, Bool.not_true, ↓kN, ↓kO, kP, List.nil_append, List.cons_append, List.append_nil, Nat.zero_add, Nat.reduceAdd, Nat.add_zero, reduceCtorEq, freshP, resP, tupV, List.reverse_cons, List.reverse_nil, leH, leB, leV, leVs, keepP, liveP, wfB, wfV, wfL, Bool.and_self, true_and, and_self, V.v.injEq, Value.int.injEq, Value.bool.injEq, Nat.le_refl, lg0, kT, kW, jZ, ↓qaa, ↓qac, ↓qae, ↓qaf, ↓qai, ↓qap, ↓qca, cxN, args0, retP_isA]
  simp only [sameP]
  cases h1 : (x.gate == y.gate) <;> simp [br, h1]
structure GInv (x : Allot) (b : List Allot) (k : Nat) : Prop where
  h : ∀ j (h : j < b.length), j < k → sameP x b[j] = false
def idxB (x : Allot) (b : List Allot) : Int := if b.any (sameP x) then (b.findIdx (sameP x) : Nat) else -1
theorem ok56 (x : Allot) (b : List Allot) : OkN Try.prog 56 [als b, .clo 57 [.ptr 0 0 0]] [.var x.enc] [] (IsA (.i (idxB x b)) [.var x.enc]) := by
  refine okN_of pol [0] lw56 (by simp) ⟨trivial, trivial⟩ (by simp) ?_
  unfold c56 als
  simp -implicitDefEqProofs only [qX, za, zc, zd, zg, zh, zj, zt, kB, kD, kF, kI, ofConst, List.length_nil, List.length_cons, ↓reduceIte, List.append_nil, Nat.zero_add, reduceCtorEq, List.length_map, jZ, ↓qax, List.length_map, cxN, args0]
  intro hm
  refine loopP_intro (fun k : Nat => ⟨[(8, .i k), (7, .i b.length), (1, .clo 57 [.ptr 0 0 0]), (0, .ro 3 (b.map Allot.enc))], [.var x.enc], 0⟩) (fun k => k ≤ b.length ∧ GInv x b k) (fun k => b.length - k) 0 ⟨by omega, ⟨by simp⟩⟩ ?_ ?_
  · simp -implicitDefEqProofs only [kI, List.getElem?_cons_zero, ↓reduceIte, Nat.reduceEqDiff, reduceCtorEq, kS, leE, leH, leB, leV, leVs, keepP, liveP, wfE, wfB, wfV, wfL, Bool.and_self, and_self, Int.natCast_zero, Allot.enc]
  rintro k ⟨hk, hv⟩
  simp -implicitDefEqProofs only [qW, qX, za, zb, zc, ze, zf, zg, zh, zj, zn, zq, zr, kA, kB, kD, kF, kI, ofConst, List.length_nil, List.length_cons, ↓reduceIte, Nat.reduceEqDiff, kK, kM, List.nil_append, List.cons_append, List.append_nil, Nat.zero_add, reduceCtorEq, List.map_cons, List.map_nil, List.drop_zero, true_and, List.length_map, Nat.le_refl, jZ, ↓qad, ↓qaj, ↓qas, ↓qaF, ↓qcc, List.length_map, List.getElem_map, al_len, al_take, Int.toNat_natCast]
  simp only [br, Int.toNat_natCast, decide_eq_true_eq, decide_eq_false_iff_not]
  refine ⟨fun h => ⟨⟨by omega, h⟩, by omega, ?_⟩, fun h => ?_⟩
  · have hk : k < b.length := by omega
    refine call_isN [0] [.agg b[k].enc, .ptr 0 0 0] (.b (sameP x b[k])) (.b (sameP x b[k])) [.var x.enc] [.var x.enc] _ (ok57 x b[k]) ⟨by simp, by simp⟩ rfl ?_ (by simp) rfl rfl ?_ ?_
    · simp [lendsOk, lendOk, lends, lend, wkL, wk, pos, Allot.enc]
    · simp [setAll, keepP, liveP, renB]
    cases hb : sameP x b[k] with
    | true =>
      simp -implicitDefEqProofs only [qX, za, zb, zf, zg, zh, zj, kB, kD, kI, List.length_nil, List.length_cons, List.set_cons_zero, List.getElem?_cons_zero, ↓reduceIte, Nat.reduceEqDiff, kM, ↓kN, List.nil_append, List.append_nil, Nat.zero_add, resP, tupV, List.reverse_cons, List.reverse_nil, leH, leB, leV, leVs, keepP, liveP, wfB, wfV, wfL, List.map_cons, List.map_nil, Bool.and_self, true_and, and_self, V.v.injEq, Value.int.injEq, Value.bool.injEq, Nat.le_refl, jZ, setAll, renB, retP_isA, Allot.enc, rens, ren]
      have h1 : b.any (sameP x) = true := by
        rw [List.any_eq_true]; exact ⟨_, List.getElem_mem hk, hb⟩
      have h2 : b.findIdx (sameP x) = k := by
        rw [List.findIdx_eq hk]
        exact ⟨hb, fun j hj => hv.h j (by omega) hj⟩
      simp [idxB, h1, h2]
    | false =>
      simp -implicitDefEqProofs only [qW, qX, zb, zg, zh, zj, zr, kB, kD, kF, kI, ofConst, List.length_nil, List.length_cons, List.set_cons_zero, List.getElem?_cons_zero, ↓reduceIte, Nat.reduceEqDiff, kK, kM, ↓kO, List.append_nil, Nat.zero_add, reduceCtorEq, kS, leE, leH, leB, leV, leVs, keepP, liveP, wfE, wfB, wfV, wfL, List.map_cons, List.map_nil, Bool.and_true, Bool.and_self, true_and, and_true, and_self, V.v.injEq, Value.int.injEq, Value.bool.injEq, jZ, ↓qbU, setAll, renB, Allot.enc, rens, ren]
      refine ⟨by simp only [lo, hi, maxLen] at *; omega, k + 1, ⟨⟨by omega, ⟨fun j hj h2 => ?_⟩⟩, by omega⟩, by simp⟩
      by_cases h3 : j = k
      · subst h3; exact hb
      · exact hv.h j hj (by omega)
  · have h1 : b.any (sameP x) = false := by
      rw [List.any_eq_false]
      intro y hy
      obtain ⟨j, hj, rfl⟩ := List.getElem_of_mem hy
      simp [hv.h j hj (by omega)]
    simp -implicitDefEqProofs only [kI, List.length_nil, List.length_cons, List.getElem?_cons_zero, ↓reduceIte, List.nil_append, Nat.zero_add, resP, tupV, List.reverse_cons, List.reverse_nil, leH, leB, leV, leVs, keepP, liveP, wfB, wfV, wfL, Bool.and_self, true_and, and_self, V.v.injEq, Value.int.injEq, Value.bool.injEq, Nat.le_refl, retP_isA, Allot.enc]
    simp [idxB, h1]
set_option maxRecDepth 20000
def meet1 (b : List Allot) (x : Allot) : Option Allot := (b.find? (sameP x)).map fun y => ⟨x.gate, x.origin, min x.n y.n⟩
def btw (a b : List Allot) : List Allot := a.filterMap (meet1 b)
theorem btw_succ {a b : List Allot} {k : Nat} (hk : k < a.length) : btw (a.take (k + 1)) b = btw (a.take k) b ++ (meet1 b a[k]).toList := by
  rw [List.take_succ_eq_append_getElem hk, btw, List.filterMap_append]
  rw [btw]
  cases h : meet1 b a[k] <;> simp [h]
theorem meet1_idx {x : Allot} {b : List Allot} : (idxB x b < 0 ∧ meet1 b x = none) ∨ ∃ j : Nat, ∃ h : j < b.length, idxB x b = j ∧ meet1 b x = some ⟨x.gate, x.origin, min x.n b[j].n⟩ := by
  by_cases h : b.any (sameP x) = true
  · right
    have hj : b.findIdx (sameP x) < b.length := by
      rw [List.findIdx_lt_length]
      obtain ⟨y, hy, h2⟩ := List.any_eq_true.1 h
      exact ⟨y, hy, h2⟩
    refine ⟨b.findIdx (sameP x), hj, by simp [idxB, h], ?_⟩
    have : b.find? (sameP x) = some b[b.findIdx (sameP x)] := by
      rw [List.find?_eq_some_iff_getElem]
      refine ⟨List.findIdx_getElem, _, hj, rfl, fun j hj => by simpa using List.not_of_lt_findIdx hj⟩
    simp [meet1, this]
  · left
    refine ⟨by simp [idxB, h], ?_⟩
    have : b.find? (sameP x) = none := by
      rw [List.find?_eq_none]
      intro y hy h2
      exact h (List.any_eq_true.2 ⟨y, hy, h2⟩)
    simp [meet1, this]
theorem btw_len {a b : List Allot} {k : Nat} : (btw (a.take k) b).length ≤ k := by
  have h1 := List.length_filterMap_le (meet1 b) (a.take k)
  have h2 : (a.take k).length ≤ k := by rw [List.length_take]; omega
  unfold btw
  omega
theorem ok33 (a b : List Allot) (ha : a.length ≤ 1000000) (hb : b.length ≤ 1000000) : Ok 33 [als a, als b] (Is (als (btw a b))) := by
  refine okN_give (R := fun r hs => wk (als (btw a b)) (gvV (fun _ => true) hs r)) ?_ fun _ _ h => h
  refine ok_of lw33 (by simp) ?_
  unfold c33 c33l0 als
  simp -implicitDefEqProofs only [qX, za, zc, zd, zg, zh, zj, zt, kB, kD, kF, kI, ofConst, List.length_nil, ↓reduceIte, List.append_nil, Nat.zero_add, reduceCtorEq, List.length_map, jZ, ↓qax, List.length_map, cxN, args0]
  intro hm
  refine loopP_ghost (.virt 1 3 (by decide) (.nilE 5 0 rfl (.refl _))) (fun k : Nat => ⟨[(11, .i k), (10, .i a.length), (9, .ro 3 (a.map Allot.enc)), (5, .sl 0 0 (btw (a.take k) b).length), (1, .ro 3 (b.map Allot.enc))], [.arr 3 ((btw (a.take k) b).map Allot.enc)], 0⟩) (fun k => k ≤ a.length) (fun k => a.length - k) 0 (by omega) ?_ ?_
  · simp -implicitDefEqProofs only [kI, List.length_nil, List.getElem?_cons_zero, ↓reduceIte, Nat.reduceEqDiff, List.nil_append, reduceCtorEq, kS, leE, leH, leB, keepP, liveP, wfE, wfB, wfV, List.map_nil, List.take_zero, Bool.and_self, and_self, kW, jZ, Int.natCast_zero, btw, List.take_zero, List.filterMap_nil]
  rintro k hk
  simp -implicitDefEqProofs only [qW, qX, za, zb, zc, ze, zf, zg, zh, zj, zm, zn, zo, zq, zr, zz, kx, kB, kC, kD, kI, ofConst, cells?, List.length_nil, List.length_cons, List.set_cons_zero, splice, kJ, List.getD_eq_getElem?_getD, List.getElem?_cons_zero, ↓reduceIte, Nat.reduceEqDiff, Option.getD_some, kK, kM, List.nil_append, List.cons_append, List.append_nil, Nat.zero_add, Nat.reduceAdd, Nat.add_zero, freshP, List.map_cons, List.map_nil, List.drop_zero, List.take_zero, List.drop_nil, Bool.and_true, true_and, and_true, List.not_mem_nil, List.length_map, not_false_eq_true, Nat.le_refl, lg0, kT, kU, kW, kY, wc, jZ, ↓qaa, ↓qad, ↓qaj, ↓qak, ↓qam, ↓qas, ↓qcc, List.length_map, List.getElem_map, al_len, al_take, al_isC, Int.toNat_natCast]
  simp only [br, Int.toNat_natCast, decide_eq_true_eq, decide_eq_false_iff_not]
  refine ⟨fun h => ⟨⟨by omega, h⟩, by omega, ?_⟩, fun h => ?_⟩
  · have hk : k < a.length := by omega
    refine call_isN [1] [als b, .clo 57 [.ptr 0 0 0]] (.i (idxB a[k] b)) (.i (idxB a[k] b)) [.var a[k].enc] [.var a[k].enc] _ (ok56 a[k] b) ⟨by simp, by simp⟩ ?_ ?_ (by simp) rfl rfl ?_ ?_
    · simp [blk, renB, rens, ren, Allot.enc]
    · simp [als, lendsOk, lendOk, lends, lend, wkL, wk, wkR, pos]
    · simp [setAll, keepP]
    simp -implicitDefEqProofs only [qW, qX, qY, za, zb, zg, zh, zj, zn, zo, zp, zq, zr, zy, zH, zJ, kB, kC, kD, kF, kI, ofConst, cells?, List.length_nil, List.length_cons, List.set_cons_zero, splice, kJ, List.getD_eq_getElem?_getD, List.getElem?_cons_zero, ↓reduceIte, Nat.reduceEqDiff, Option.getD_some, kK, kM, List.nil_append, List.cons_append, List.append_nil, Nat.zero_add, Nat.reduceAdd, Nat.add_zero, reduceCtorEq, freshP, litsP, kS, leE, leH, leB, keepP, liveP, wfE, wfB, wfV, killE, killB, kill, kills, St.kill, List.map_cons, List.map_nil, List.drop_zero, List.take_zero, List.take_nil, List.drop_nil, List.all_cons, List.all_nil, isD, isC, Bool.and_true, Bool.and_self, true_and, and_true, and_self, V.v.injEq, Value.int.injEq, Value.bool.injEq, List.mem_cons, List.not_mem_nil, or_false, false_or, List.length_append, List.length_map, not_false_eq_true, Bool.false_eq_true, Nat.reduceLT, Nat.reduceLeDiff, Nat.le_refl, lg0, kT, kU, kV, kW, lg1, kX, kY, kZ, wa, wc, wd, jZ, ↓qaa, ↓qac, ↓qad, ↓qae, ↓qaf, ↓qai, ↓qaj, ↓qak, ↓qal, ↓qap, ↓qaq, ↓qas, ↓qaH, ↓qaI, ↓qaY, ↓qaZ, ↓qbU, ↓qcf, List.length_map, List.getElem_map, setAll, renB, rens, ren, Allot.enc]
    simp only [br, decide_eq_true_eq, decide_eq_false_iff_not]
    have hl := btw_len (a := a) (b := b) (k := k)
    rcases @meet1_idx a[k] b with ⟨h1, h2⟩ | ⟨j, hj, h1, h2⟩
    · have hs := btw_succ (b := b) hk
      rw [h2, Option.toList_none, List.append_nil] at hs
      refine ⟨fun h3 => absurd h3 (by omega), fun _ => ⟨by simp only [lo, hi]; omega, k + 1, ⟨by omega, by omega⟩, ⟨rfl, ?_⟩, ?_⟩⟩ <;> rw [hs]
    · have hs := btw_succ (b := b) hk
      rw [h2] at hs
      refine ⟨fun h3 => ⟨⟨h3, by omega⟩, by omega, by omega, by simp only [lo, hi]; omega, k + 1, ⟨by omega, by omega⟩, ⟨rfl, ?_⟩, ?_⟩, fun h3 => absurd (by omega) h3⟩
      · rw [hs]; simp
      · have : (idxB a[k] b).toNat = j := by omega
        rw [hs, List.take_of_length_le (by simp)]
        simp [this, Allot.enc]
  · have hk : k = a.length := by omega
    subst hk
    simp [qa, qb, qc, qd, qe, qf, qh, qi, qj, qk, ql, qm, qn, qo, qp, qq, qr, qt, qu, qv, qw, qx, qy, qz, qA, qB, qC, qD, qE, qF, qG, qH, qI, qJ, qK, qL, qM, qN, qO, rdK, qP, qQ, qR, qS, qT, qU, qV, qW, qX, qY, qZ, za, zb, zc, zd, ze, zf, zg, zh, zi, zj, zk, zl, zm, zn, zo, zp, zq, zr, zt, zu, zv, zw, zx, zy, zz, zA, zB, zC, zD, zE, zF, zG, zH, zI, zJ, zK, zL, zM, zN, zO, zP, zQ, zR, zS, zT, zU, zV, zW, zX, zY, zZ, ka, kc, ke, kf, kg, kh, ki, kj, kk, kn, ko, kp, kq, kr, kv, kw, kx, ky, kz, kA, kB, kC, kD, kF, kG, kH, kI, ofConst, cells?, List.length_nil, List.length_cons, List.set_cons_zero, splice, kJ, List.getD_eq_getElem?_getD, List.getElem?_cons_zero, ↓reduceIte, Nat.reduceEqDiff, Option.getD_some, kK, kL, arrSz, kM, Bool.not_true, Bool.not_false, ↓kN, ↓kO, kP, kQ, List.nil_append, List.cons_append, List.append_nil, Nat.zero_add, Nat.reduceAdd, Nat.add_zero, reduceCtorEq, freshP, Option.map_some, Option.map_none, slcOk, Option.getD_none, buildP, litsP, kR, resP, tupV, List.reverse_cons, List.reverse_nil, kS, leE, leH, leB, leV, leVs, keepP, liveP, wfE, wfB, wfV, wfL, killE, killB, kill, kills, St.kill, List.map_cons, List.map_nil, List.drop_zero, List.take_zero, List.take_nil, List.drop_nil, List.all_cons, List.all_nil, isD, isC, Bool.and_true, Bool.and_self, true_and, and_true, and_self, V.v.injEq, Value.int.injEq, Value.bool.injEq, List.mem_cons, List.not_mem_nil, or_false, false_or, List.length_append, List.length_map, List.length_replicate, not_false_eq_true, Bool.false_eq_true, Nat.reduceLT, Nat.reduceLeDiff, Nat.le_refl, lg0, kT, kU, kV, kW, lg1, kX, kY, kZ, wa, lg2, wb, wc, wd, we, lg3, wg, wh, wi, wj, lg4, wl, wm, wn, wo, lg5, wq, wr, wt, wu, lg6, wv, ww, wx, wy, lg7, wz, wB, wC, wD, lg8, wE, wF, wG, wH, lg9, wI, wJ, wK, wL, wM, wN, wO, wQ, wR, wS, wT, wU, wV, wW, wX, wY, wZ, ja, jb, jc, jd, je, jf, jg, jh, ji, jj, jk, jl, jm, jn, jo, jp, jq, jr, jt, ju, jv, jx, jy, jz, jA, jB, jC, jD, jE, jF, jG, jH, jI, jJ, jK, jL, jM, jN, jO, jP, jQ, jR, jS, jT, jU, jV, jW, jX, jY, jZ, ↓qaa, ↓qab, ↓qac, ↓qad, ↓qae, ↓qaf, ↓qag, ↓qah, ↓qai, ↓qaj, ↓qak, ↓qal, ↓qam, ↓qan, ↓qao, ↓qap, ↓qaq, ↓qar, ↓qas, ↓qat, ↓qau, ↓qav, ↓qaw, ↓qax, ↓qay, ↓qaz, ↓qaA, ↓qaB, ↓qaC, ↓qaD, ↓qaE, ↓qaF, ↓qaG, ↓qaH, ↓qaI, ↓qaJ, ↓qaK, ↓qaL, ↓qaM, ↓qaN, ↓qaO, ↓qaP, ↓qaQ, ↓qaR, ↓qaS, ↓qaT, ↓qaU, ↓qaV, ↓qaW, ↓qaX, ↓qaY, ↓qaZ, ↓qba, ↓qbb, ↓qbc, ↓qbd, ↓qbe, ↓qbf, ↓qbg, ↓qbh, ↓qbi, ↓qbj, ↓qbk, ↓qbl, ↓qbm, ↓qbn, ↓qbo, ↓qbp, ↓qbq, ↓qbr, ↓qbs, ↓qbt, ↓qbu, ↓qbv, ↓qbw, ↓qbx, ↓qby, ↓qbz, ↓qbA, ↓qbB, ↓qbC, ↓qbD, ↓qbE, ↓qbF, ↓qbG, ↓qbH, ↓qbI, ↓qbJ, ↓qbK, ↓qbL, ↓qbM, ↓qbN, ↓qbO, ↓qbP, ↓qbQ, ↓qbR, ↓qbS, ↓qbT, ↓qbU, ↓qbV, ↓qbW, ↓qbX, ↓qbY, ↓qbZ, ↓qca, ↓qcb, ↓qcc, ↓qcd, ↓qce, ↓qcf, ↓qcg, ↓qch, ↓qci, List.length_map, List.getElem_map, al_len, al_take, al_0, al_1, al_2, al_isC, al_isD, sp_len, sp_take, sp_0, sp_1, sp_2, sp_isC, sp_isD, rd_len, rd_take, rd_0, rd_1, rd_2, rd_3, rd_isC, rd_isD, enc_len, enc_take, enc_0, enc_1, enc_2, enc_3, enc_isC, enc_isD, encI_len, encI_0, encB_len, encB_0, Int.toNat_natCast, encI_drop, encB_drop, cxN, retP_eq]
    exact ⟨_, ⟨leH_rf _, by simp, by simp [wfB]⟩, by simp [gvV, gvL, wk, wkR, blk, btw]; exact List.take_of_length_le (by simp)⟩
def UqA : List Allot → Prop
  | [] => True
  | x :: L => (∀ y ∈ L, ¬ (y.gate = x.gate ∧ y.origin = x.origin)) ∧ UqA L
theorem addA_mem {g o n : Int} : ∀ {L : List Allot} {y : Allot}, y ∈ addA L g o n → (y.gate = g ∧ y.origin = o) ∨ ∃ z ∈ L, y.gate = z.gate ∧ y.origin = z.origin
  | [], y, h => by
    rw [addA] at h
    obtain rfl := List.mem_singleton.1 h
    exact .inl ⟨rfl, rfl⟩
  | x :: L, y, h => by
    rw [addA] at h
    by_cases h2 : x.gate = g ∧ x.origin = o
    · rw [if_pos h2] at h
      rcases List.mem_cons.1 h with rfl | h
      · exact .inl ⟨rfl, rfl⟩
      · exact .inr ⟨y, List.mem_cons_of_mem _ h, rfl, rfl⟩
    · rw [if_neg h2] at h
      rcases List.mem_cons.1 h with rfl | h
      · exact .inr ⟨y, List.mem_cons_self, rfl, rfl⟩
      · rcases addA_mem h with h3 | ⟨z, hz, h3⟩
        · exact .inl h3
        · exact .inr ⟨z, List.mem_cons_of_mem _ hz, h3⟩
theorem addA_uq {g o n : Int} : ∀ {L : List Allot}, UqA L → UqA (addA L g o n)
  | [], _ => ⟨fun y hy => (by cases hy), trivial⟩
  | x :: L, h => by
    rw [addA]
    by_cases h2 : x.gate = g ∧ x.origin = o
    · rw [if_pos h2]
      exact ⟨fun y hy h3 => h.1 y hy (by simp only at h3; omega), h.2⟩
    · rw [if_neg h2]
      refine ⟨fun y hy h3 => ?_, addA_uq h.2⟩
      rcases addA_mem hy with h4 | ⟨z, hz, h4⟩
      · exact h2 (by omega)
      · exact h.1 z hz (by omega)
theorem alN_uq {ps : List Spot} {rs : List Road} {fr : Fr} : ∀ {k : Nat}, UqA (alN ps rs fr k)
  | 0 => trivial
  | k + 1 => by
    rw [alN]
    split
    · exact addA_uq alN_uq
    · exact alN_uq
def cntA (m : Allot) : List Allot → Int
  | [] => 0
  | x :: L => (if x.gate = m.gate ∧ x.origin = m.origin ∧ m.n ≤ x.n then 1 else 0) + cntA m L
theorem cnt_0 {m : Allot} : ∀ {L : List Allot}, (∀ y ∈ L, ¬ (y.gate = m.gate ∧ y.origin = m.origin)) → cntA m L = 0
  | [], _ => rfl
  | x :: L, h => by
    rw [cntA, if_neg fun h2 => h x List.mem_cons_self ⟨h2.1, h2.2.1⟩, cnt_0 fun y hy => h y (List.mem_cons_of_mem _ hy)]; rfl
theorem cnt_1 {m x : Allot} (h1 : x.gate = m.gate) (h2 : x.origin = m.origin) (h3 : m.n ≤ x.n) : ∀ {L : List Allot}, UqA L → x ∈ L → cntA m L = 1
  | y :: L, hu, hx => by
    rw [cntA]
    rcases List.mem_cons.1 hx with rfl | hx
    · rw [if_pos ⟨h1, h2, h3⟩, cnt_0 fun z hz h4 => hu.1 z hz (by omega)]; rfl
    · have := hu.1 x hx
      rw [if_neg (by omega), cnt_1 h1 h2 h3 hu.2 hx]; rfl
theorem cnt_b {m : Allot} : ∀ {L : List Allot}, 0 ≤ cntA m L ∧ cntA m L ≤ L.length
  | [] => by simp [cntA]
  | x :: L => by
    have := cnt_b (m := m) (L := L)
    rw [cntA, List.length_cons]
    split <;> omega
theorem cnt_app {m : Allot} : ∀ {L M : List Allot}, cntA m (L ++ M) = cntA m L + cntA m M
  | [], M => by simp [cntA]
  | x :: L, M => by rw [List.cons_append, cntA, cntA, cnt_app]; omega
theorem cnt_take {m : Allot} {L : List Allot} {j : Nat} (h : j < L.length) : cntA m (L.take (j + 1)) = cntA m (L.take j) + (if L[j].gate = m.gate ∧ L[j].origin = m.origin ∧ m.n ≤ L[j].n then 1 else 0) := by
  rw [List.take_succ_eq_append_getElem h, cnt_app, cntA, cntA]; omega
theorem meet1_some {b : List Allot} {x m : Allot} (h : meet1 b x = some m) : ∃ y ∈ b, sameP x y = true ∧ m = ⟨x.gate, x.origin, min x.n y.n⟩ := by
  unfold meet1 at h
  cases hf : b.find? (sameP x) with
  | none => rw [hf] at h; cases h
  | some y =>
    rw [hf] at h
    exact ⟨y, List.mem_of_find?_eq_some hf, List.find?_some hf, by simpa using h.symm⟩
theorem btw_mem {a b : List Allot} {m : Allot} (h : m ∈ btw a b) : ∃ x ∈ a, ∃ y ∈ b, sameP x y = true ∧ m = ⟨x.gate, x.origin, min x.n y.n⟩ := by
  obtain ⟨x, hx, h2⟩ := List.mem_filterMap.1 h
  obtain ⟨y, hy, h3⟩ := meet1_some h2
  exact ⟨x, hx, y, hy, h3⟩
theorem btw_cnt {a b : List Allot} (ha : UqA a) (hb : UqA b) {m : Allot} (h : m ∈ btw a b) : cntA m a = 1 ∧ cntA m b = 1 := by
  obtain ⟨x, hx, y, hy, h1, rfl⟩ := btw_mem h
  simp only [sameP, Bool.and_eq_true, beq_iff_eq] at h1
  exact ⟨cnt_1 (m := ⟨x.gate, x.origin, min x.n y.n⟩) (x := x) rfl rfl (show min x.n y.n ≤ x.n by omega) ha hx, cnt_1 (m := ⟨x.gate, x.origin, min x.n y.n⟩) (x := y) h1.1.symm h1.2.symm (show min x.n y.n ≤ y.n by omega) hb hy⟩
theorem btw_nn {a b : List Allot} {A B : Int} (ha : inB a A) (hb : inB b B) : inB (btw a b) A := by
  intro m hm
  obtain ⟨x, hx, y, hy, h1, rfl⟩ := btw_mem hm
  have := ha x hx
  have := hb y hy
  simp only; omega
theorem btw_a {p : Int → Int → Bool} {A B : Int} {b : List Allot} (hb : inB b B) : ∀ {a : List Allot}, inB a A → sumL p (btw a b) ≤ sumL p a
  | [], _ => Int.le_refl _
  | x :: a, h => by
    have h1 := btw_a hb (p := p) (a := a) fun y hy => h y (List.mem_cons_of_mem _ hy)
    have h2 := h x List.mem_cons_self
    unfold btw at h1 ⊢
    rw [List.filterMap_cons, sumL]
    cases hm : meet1 b x with
    | none => simp only; split <;> omega
    | some m =>
      obtain ⟨y, hy, _, rfl⟩ := meet1_some hm
      simp only [sumL]
      split <;> omega
def sumM (f : Allot → Int) : List Allot → Int
  | [] => 0
  | x :: L => f x + sumM f L
theorem sumM_nn {f : Allot → Int} : ∀ {L : List Allot}, (∀ x ∈ L, 0 ≤ f x) → 0 ≤ sumM f L
  | [], _ => Int.le_refl _
  | x :: L, h => by
    have h1 := h x List.mem_cons_self
    have h2 := sumM_nn fun y hy => h y (List.mem_cons_of_mem _ hy)
    rw [sumM]; omega
theorem sumM_le {f g : Allot → Int} : ∀ {L : List Allot}, (∀ x ∈ L, f x ≤ g x) → sumM f L ≤ sumM g L
  | [], _ => Int.le_refl _
  | x :: L, h => by
    have h1 := h x List.mem_cons_self
    have h2 := sumM_le fun y hy => h y (List.mem_cons_of_mem _ hy)
    rw [sumM, sumM]; omega
theorem sumM_mem {f : Allot → Int} : ∀ {L : List Allot} {y : Allot}, (∀ x ∈ L, 0 ≤ f x) → y ∈ L → f y ≤ sumM f L
  | x :: L, y, h, hy => by
    have h1 := h x List.mem_cons_self
    have h2 := sumM_nn fun y hy => h y (List.mem_cons_of_mem _ hy)
    rw [sumM]
    rcases List.mem_cons.1 hy with rfl | hy
    · omega
    · have := sumM_mem (fun y hy => h y (List.mem_cons_of_mem _ hy)) hy; omega
theorem sumM_0 {f : Allot → Int} : ∀ {L : List Allot}, (∀ x ∈ L, f x = 0) → sumM f L = 0
  | [], _ => rfl
  | x :: L, h => by rw [sumM, h x List.mem_cons_self, sumM_0 fun y hy => h y (List.mem_cons_of_mem _ hy)]; rfl
theorem sumM_plus {f g : Allot → Int} : ∀ {L : List Allot}, sumM (fun x => f x + g x) L = sumM f L + sumM g L
  | [] => rfl
  | x :: L => by rw [sumM, sumM, sumM, sumM_plus]; omega
theorem sumM_swap {w : Allot → Allot → Int} {b : List Allot} : ∀ {a : List Allot}, sumM (fun x => sumM (w x) b) a = sumM (fun y => sumM (fun x => w x y) a) b
  | [] => (sumM_0 fun _ _ => rfl).symm
  | x :: a => by
    rw [sumM, sumM_swap, ← sumM_plus]
    rfl
def wP (p : Int → Int → Bool) (x y : Allot) : Int := if sameP x y = true ∧ p x.gate x.origin = true then min x.n y.n else 0
theorem wP_nn {p : Int → Int → Bool} {x y : Allot} (h1 : 0 ≤ x.n) (h2 : 0 ≤ y.n) : 0 ≤ wP p x y := by
  unfold wP; split <;> omega
theorem sumL_M {p : Int → Int → Bool} : ∀ {L : List Allot}, sumL p L = sumM (fun y => if p y.gate y.origin then y.n else 0) L
  | [] => rfl
  | x :: L => by rw [sumL, sumM, sumL_M]
theorem wP_col {p : Int → Int → Bool} {y : Allot} (hy : 0 ≤ y.n) : ∀ {a : List Allot}, UqA a → sumM (fun x => wP p x y) a ≤ if p y.gate y.origin then y.n else 0
  | [], _ => by rw [sumM]; split <;> omega
  | x :: a, h => by
    rw [sumM]
    by_cases h1 : sameP x y = true
    · have h1' := h1
      simp only [sameP, Bool.and_eq_true, beq_iff_eq] at h1'
      rw [sumM_0 fun z hz => by
        refine if_neg fun h2 => h.1 z hz ?_
        have h3 := h2.1
        simp only [sameP, Bool.and_eq_true, beq_iff_eq] at h3
        omega]
      rw [wP, h1'.1, h1'.2]
      by_cases h2 : p y.gate y.origin = true
      · rw [if_pos ⟨h1, h2⟩, if_pos h2]; omega
      · rw [if_neg fun h3 => h2 h3.2, if_neg h2]; omega
    · have := wP_col hy (p := p) h.2
      rw [wP, if_neg fun h2 => h1 h2.1]; omega
theorem btw_b {p : Int → Int → Bool} {A B : Int} {a b : List Allot} (ha : inB a A) (hb : inB b B) (hu : UqA a) : sumL p (btw a b) ≤ sumL p b := by
  have h1 : ∀ {c : List Allot}, inB c A → sumL p (btw c b) ≤ sumM (fun x => sumM (wP p x) b) c := by
    intro c
    induction c with
    | nil => intro _; exact Int.le_refl _
    | cons x c ih =>
      intro hc
      have h2 := ih fun y hy => hc y (List.mem_cons_of_mem _ hy)
      have hx := hc x List.mem_cons_self
      have hnn : ∀ y ∈ b, 0 ≤ wP p x y := fun y hy => wP_nn hx.1 (hb y hy).1
      have h3 := sumM_nn hnn
      unfold btw at h2 ⊢
      rw [List.filterMap_cons, sumM]
      cases hm : meet1 b x with
      | none => simp only; omega
      | some m =>
        obtain ⟨y, hy, h4, rfl⟩ := meet1_some hm
        have h5 := sumM_mem hnn hy
        simp only [sumL]
        rw [wP] at h5
        by_cases h6 : p x.gate x.origin = true
        · rw [if_pos ⟨h4, h6⟩] at h5
          rw [if_pos h6]; omega
        · rw [if_neg h6]; omega
  refine Int.le_trans (h1 ha) ?_
  rw [sumM_swap, sumL_M]
  exact sumM_le fun y hy => wP_col (hb y hy).1 hu
set_option maxRecDepth 20000
set_option maxHeartbeats 1000000
def frzQ (fx : List Nat) (v : V) (r : List Nat) (s : St) (K : St → Prop) : Prop :=
  match v with
  | .sl k _ _ => frz1 fx k (blk s.h k) s fun s' => frzP fx r s' K
  | _ => frzP fx r s K
theorem op_litsf {cx : Cx} {e : Env} {h : List Blk} {b : Nat} {K : V → St → Prop} {xs : List Nat} {j sz n : Nat} {z : List Value} {ps : List (Nat × Operand)} : aOp cx (.litsf xs j sz n z ps) ⟨e, h, b⟩ K =
    frzP (cx.fx ++ cx.bn) xs ⟨e, h, b⟩ fun s => litsP s.e sz (List.replicate n (z.map .v)) ps fun els => freshP s.h (s.b + j) ∧ K (.sl (s.b + j) 0 n) { s with h := s.h.set (s.b + j) (.arr sz els) } := rfl
theorem frzP_n {fx : List Nat} {s : St} {K : St → Prop} : frzP fx [] s K = K s := rfl
theorem frzP_c {fx : List Nat} {x : Nat} {r : List Nat} {e : Env} {h : List Blk} {b : Nat} {K : St → Prop} : frzP fx (x :: r) ⟨e, h, b⟩ K = frzQ fx (get e x) r ⟨e, h, b⟩ K := rfl
theorem frzQ_r {fx : List Nat} {k : Nat} {l : List (List V)} {r : List Nat} {s : St} {K : St → Prop} : frzQ fx (.ro k l) r s K = frzP fx r s K := rfl
theorem frzQ_a {fx : List Nat} {l : List V} {r : List Nat} {s : St} {K : St → Prop} : frzQ fx (.agg l) r s K = frzP fx r s K := rfl
theorem sp_le' (a : Allot) : leVs a.enc a.enc := by simp [Allot.enc, leVs, leV]
theorem sp_wf' {h : List Blk} (a : Allot) : wfL h a.enc := by simp [Allot.enc, wfL, wfV]
theorem sps_le (a : Spot) : leVs a.enc a.enc := by simp [Spot.enc, leVs, leV]
theorem sps_wf {h : List Blk} (a : Spot) : wfL h a.enc := by simp [Spot.enc, wfL, wfV]
def rowA (l : List Allot) : List V := [.ro 3 (l.map Allot.enc)]
theorem rowA_0 (l : List Allot) : (rowA l)[0]? = some (.ro 3 (l.map Allot.enc)) := rfl
theorem inB_take {L : List Allot} {B : Int} {j : Nat} (h : inB L B) : inB (L.take j) B := fun a ha => h a (List.mem_of_mem_take ha)
def rowP (t : List Spot × List Road) : List V := [.ro 3 (t.1.map Spot.enc), .ro 4 (t.2.map Road.enc)]
theorem rowP_len (l : List Spot × List Road) : (rowP l).length = 2 := rfl
theorem rowP_0 (l : List Spot × List Road) : (rowP l)[0]? = some (.ro 3 (l.1.map Spot.enc)) := rfl
theorem rowP_isC (l : List Spot × List Road) : (rowP l).all isC = true := rfl
theorem rowP_take (l : List Spot × List Road) : List.take 2 (rowP l) = rowP l := rfl
def cntL (m : Allot) : List (List Allot) → Int
  | [] => 0
  | l :: r => cntA m l + cntL m r
theorem cntL_app {m : Allot} : ∀ {L M : List (List Allot)}, cntL m (L ++ M) = cntL m L + cntL m M
  | [], M => by simp [cntL]
  | x :: L, M => by rw [List.cons_append, cntL, cntL, cntL_app]; omega
theorem cntL_take {m : Allot} {L : List (List Allot)} {j : Nat} (h : j < L.length) : cntL m (L.take (j + 1)) = cntL m (L.take j) + cntA m L[j] := by
  rw [List.take_succ_eq_append_getElem h, cntL_app, cntL, cntL]; omega
theorem cntL_b {m : Allot} : ∀ {L : List (List Allot)}, (∀ l ∈ L, l.length ≤ 25) → 0 ≤ cntL m L ∧ cntL m L ≤ 25 * L.length
  | [], _ => by simp [cntL]
  | l :: L, h => by
    have h1 := cntL_b (m := m) fun x hx => h x (List.mem_cons_of_mem _ hx)
    have h2 := h l List.mem_cons_self
    have h3 := cnt_b (m := m) (L := l)
    rw [cntL, List.length_cons]; omega
def hP (ps : List Spot) (rs : List Road) (fr : Fr) (qs : List Spot) (ts : List Road) (gr : Fr) : List Blk :=
  [.var [.ro 3 (ps.map Spot.enc), .ro 4 (rs.map Road.enc)], .var [.i fr.sent, .i fr.cost, .ro 1 (fr.flow.map encI), .ro 1 (fr.price.map encI), .ro 1 (fr.cut.map encI)],
   .var [.ro 3 (qs.map Spot.enc), .ro 4 (ts.map Road.enc)], .var [.i gr.sent, .i gr.cost, .ro 1 (gr.flow.map encI), .ro 1 (gr.price.map encI), .ro 1 (gr.cut.map encI)]]
theorem ok7 (ps : List Spot) (rs : List Road) (fr : Fr) (qs : List Spot) (ts : List Road) (gr : Fr) : Ok 7 [plant ps rs, fr.enc, plant qs ts, gr.enc] (Is (.b true)) := by
  refine ok_of lw7 (by simp) ?_
  unfold c7 plant sps rds Fr.enc li
  simp -implicitDefEqProofs only [qX, za, zg, zh, zj, zl, zn, kx, kB, kD, kF, kI, ofConst, cells?, List.length_nil, List.length_cons, List.set_cons_zero, kJ, List.getD_eq_getElem?_getD, List.getElem?_cons_zero, ↓reduceIte, Nat.reduceEqDiff, Option.getD_some, List.nil_append, List.append_nil, Nat.zero_add, Nat.reduceAdd, Nat.add_zero, reduceCtorEq, freshP, List.map_cons, List.map_nil, List.drop_zero, List.take_nil, true_and, Nat.le_refl, lg0, kT, kV, kW, lg1, kX, kZ, wa, lg2, wb, we, wj, jZ, ↓qaa, ↓qac, ↓qaf, ↓qaj, cxN, args0]
  refine call_is (ok19 ps rs) (by simp [plant, sps, rds, lendsOk, lendOk, lends, lend, wkL, wk, wkR]) rfl trivial ?_
  cases hF : fewB ps rs with
  | false =>
    simp -implicitDefEqProofs only [qX, za, zb, zg, zh, zi, zj, zk, zv, kx, kB, kD, kF, kI, ofConst, List.length_nil, List.length_cons, ↓reduceIte, Nat.reduceEqDiff, kL, kM, Bool.not_false, ↓kN, kP, List.append_nil, Nat.zero_add, Nat.reduceAdd, List.map_nil, Bool.false_eq_true, jZ]
    refine s10 rfl rfl ?_
    simp -implicitDefEqProofs only [zf, zg, zh, zj, kB, kD, kI, ↓reduceIte, List.nil_append, kR, resP, tupV, List.reverse_cons, List.reverse_nil, wfV, Bool.and_self, and_self]
  | true =>
  simp -implicitDefEqProofs only [zh, zi, zj, zn, zv, kx, kB, kD, kI, List.length_nil, List.length_cons, kJ, List.getD_eq_getElem?_getD, List.getElem?_cons_zero, ↓reduceIte, Nat.reduceEqDiff, Option.getD_some, kL, Bool.not_true, ↓kO, kP, Nat.zero_add, Nat.reduceAdd, List.map_cons, List.map_nil, List.drop_zero, List.take_nil, true_and, Bool.false_eq_true, Nat.le_refl, lg0, kV, kZ, wd, wi, wn, ↓qac, ↓qaf, ↓qaj]
  refine call_is (ok32 ps rs fr) (by simp [plant, sps, rds, li, Fr.enc, lendsOk, lendOk, lends, lend, wkL, wk, wkR]) rfl trivial ?_
  cases hA : (racc ps rs fr == 0) with
  | false =>
    simp -implicitDefEqProofs only [qX, za, zb, zg, zh, zi, zj, zk, zv, kx, kB, kD, kF, kI, ofConst, List.length_nil, List.length_cons, ↓reduceIte, Nat.reduceEqDiff, kL, kM, Bool.not_false, ↓kN, ↓kO, kP, List.append_nil, Nat.zero_add, Nat.reduceAdd, List.map_nil, Bool.false_eq_true, jZ]
    refine s10 rfl rfl ?_
    simp -implicitDefEqProofs only [zf, zg, zh, zj, kB, kD, kI, ↓reduceIte, List.nil_append, kR, resP, tupV, List.reverse_cons, List.reverse_nil, wfV, Bool.and_self, and_self]
  | true =>
  simp -implicitDefEqProofs only [zh, zi, zj, zk, zn, zv, kx, kB, kD, kI, List.length_nil, List.length_cons, kJ, List.getD_eq_getElem?_getD, List.getElem?_cons_zero, ↓reduceIte, Nat.reduceEqDiff, Option.getD_some, kL, kM, Bool.not_true, ↓kO, kP, Nat.zero_add, Nat.reduceAdd, List.map_cons, List.map_nil, List.drop_zero, List.take_nil, true_and, Bool.false_eq_true, Nat.le_refl, lg0, kV, lg1, kZ, ↓qac, ↓qaf, ↓qaj]
  refine call_is (ok19 qs ts) (by simp [plant, sps, rds, lendsOk, lendOk, lends, lend, wkL, wk, wkR]) rfl trivial ?_
  cases hF2 : fewB qs ts with
  | false =>
    simp -implicitDefEqProofs only [qX, za, zb, zg, zh, zi, zj, zk, zv, kx, kB, kD, kF, kI, ofConst, List.length_nil, List.length_cons, ↓reduceIte, Nat.reduceEqDiff, kL, kM, Bool.not_false, ↓kN, ↓kO, kP, List.append_nil, Nat.zero_add, Nat.reduceAdd, List.map_nil, Bool.false_eq_true, jZ]
    refine s10 rfl rfl ?_
    simp -implicitDefEqProofs only [zf, zg, zh, zj, kB, kD, kI, ↓reduceIte, List.nil_append, kR, resP, tupV, List.reverse_cons, List.reverse_nil, wfV, Bool.and_self, and_self]
  | true =>
  simp -implicitDefEqProofs only [zh, zi, zj, zk, zn, zv, kx, kB, kD, kI, List.length_nil, List.length_cons, kJ, List.getD_eq_getElem?_getD, List.getElem?_cons_zero, ↓reduceIte, Nat.reduceEqDiff, Option.getD_some, kL, kM, Bool.not_true, ↓kO, kP, Nat.zero_add, Nat.reduceAdd, List.map_cons, List.map_nil, List.drop_zero, List.take_nil, true_and, Bool.false_eq_true, Nat.le_refl, lg0, kV, lg1, kZ, lg2, wd, wi, wn, ↓qac, ↓qaf, ↓qaj]
  refine call_is (ok32 qs ts gr) (by simp [plant, sps, rds, li, Fr.enc, lendsOk, lendOk, lends, lend, wkL, wk, wkR]) rfl trivial ?_
  cases hA2 : (racc qs ts gr == 0) with
  | false =>
    simp -implicitDefEqProofs only [qX, za, zb, zg, zh, zi, zk, zv, kx, kB, kD, kI, List.length_nil, List.length_cons, ↓reduceIte, Nat.reduceEqDiff, kL, kM, Bool.not_false, ↓kN, ↓kO, kP, List.append_nil, Nat.zero_add, Nat.reduceAdd, List.map_nil, Bool.false_eq_true, jZ]
    refine s10 rfl rfl ?_
    simp -implicitDefEqProofs only [zf, zg, zh, zj, kB, kD, kI, ↓reduceIte, List.nil_append, kR, resP, tupV, List.reverse_cons, List.reverse_nil, wfV, Bool.and_self, and_self]
  | true =>
  have h : IsPlan ps rs fr := IsPlan.of (by simpa [fewB] using hF) (by simpa using hA)
  have g : IsPlan qs ts gr := IsPlan.of (by simpa [fewB] using hF2) (by simpa using hA2)
  simp -implicitDefEqProofs only [qO, rdK, qP, qR, qS, qU, qW, za, zb, zg, zh, zi, zk, zn, zv, kx, kB, kD, kI, List.length_nil, List.length_cons, kJ, List.getD_eq_getElem?_getD, List.getElem?_cons_zero, ↓reduceIte, Nat.reduceEqDiff, Option.getD_some, kL, kM, Bool.not_true, ↓kO, kP, List.append_nil, Nat.zero_add, Nat.reduceAdd, List.map_cons, List.map_nil, List.drop_zero, List.take_nil, Bool.and_true, true_and, and_true, Bool.false_eq_true, Nat.le_refl, lg0, kV, lg1, kZ, lg2, wd, wi, wn, jZ, ↓qac, ↓qaf, ↓qaj]
  refine call_is (ok30 ps rs fr h) (by simp [plant, sps, rds, li, Fr.enc, lendsOk, lendOk, lends, lend, wkL, wk, wkR]) rfl trivial ?_
  simp -implicitDefEqProofs only [qR, qU, kx, kB, kD, kI, ↓reduceIte, Nat.reduceEqDiff, List.map_cons, List.map_nil, Bool.and_true, and_true, Bool.false_eq_true]
  refine call_is (ok30 qs ts gr g) (by simp [plant, sps, rds, li, Fr.enc, lendsOk, lendOk, lends, lend, wkL, wk, wkR]) rfl trivial ?_
  have al := alN_len (ps := ps) (rs := rs) (fr := fr) (k := rs.length)
  have ai := alN_in (ps := ps) (rs := rs) h.fl_b (k := rs.length)
  have au := alN_uq (ps := ps) (rs := rs) (fr := fr) (k := rs.length)
  have ale : ∀ i (hi : i < ps.length), sumL (cP ps[i]) (alN ps rs fr rs.length) ≤ ps[i].cap := fun i hi => Int.le_trans (h.le_fl hi) (h.caps hi)
  have bl := alN_len (ps := qs) (rs := ts) (fr := gr) (k := ts.length)
  have bi := alN_in (ps := qs) (rs := ts) g.fl_b (k := ts.length)
  have bu := alN_uq (ps := qs) (rs := ts) (fr := gr) (k := ts.length)
  have ble : ∀ i (hi : i < qs.length), sumL (cP qs[i]) (alN qs ts gr ts.length) ≤ qs[i].cap := fun i hi => Int.le_trans (g.le_fl hi) (g.caps hi)
  have h25 := h.few.2
  have g25 := g.few.2
  generalize alN ps rs fr rs.length = a at *
  generalize alN qs ts gr ts.length = b at *
  simp -implicitDefEqProofs only [qa, qQ, qS, qX, za, zh, zj, kx, kB, kD, kI, List.length_nil, List.length_cons, ↓reduceIte, Nat.reduceEqDiff, List.append_nil, Nat.zero_add, Nat.reduceAdd, List.map_cons, List.map_nil, jZ]
  refine call_is (ok33 a b (by omega) (by omega)) (by simp [als, lendsOk, lendOk, lends, lend, wkL, wk, wkR]) rfl trivial ?_
  have mc := fun m (hm : m ∈ btw a b) => btw_cnt au bu hm
  have mi := btw_nn ai bi
  have ml : (btw a b).length ≤ a.length := by have := btw_len (a := a) (b := b) (k := a.length); rwa [List.take_length] at this
  have ma := fun i (hi : i < ps.length) => Int.le_trans (btw_a (p := cP ps[i]) bi ai) (ale i hi)
  have mb := fun i (hi : i < qs.length) => Int.le_trans (btw_b (p := cP qs[i]) ai bi au) (ble i hi)
  have c33 := ok33 a b (by omega) (by omega)
  generalize btw a b = M at *
  unfold als
  simp -implicitDefEqProofs only [zc, zd, zg, zh, zj, zt, kB, kD, kF, kI, ofConst, ↓reduceIte, List.length_map, ↓qax, List.length_map]
  intro hm
  refine loopP_intro (fun k : Nat => ⟨[(56, .i k), (55, .i M.length), (54, .ro 3 (M.map Allot.enc)), (10, .ro 3 (b.map Allot.enc)), (9, .ro 3 (a.map Allot.enc)), (7, .ptr 3 0 0), (6, .ptr 2 0 0), (5, .ptr 1 0 0), (4, .ptr 0 0 0)], hP ps rs fr qs ts gr, 0⟩) (fun k => k ≤ M.length) (fun k => M.length - k) 0 (by omega) ?_ ?_
  · simp -implicitDefEqProofs only [kI, List.getElem?_cons_zero, ↓reduceIte, Nat.reduceEqDiff, kS, leE, leH, leB, leV, leVs, keepP, liveP, wfE, wfB, wfV, wfL, Bool.and_self, and_self, lg0, lg1, lg2, Int.natCast_zero, hP]
  rintro k hk
  unfold hP
  simp -implicitDefEqProofs only [qW, qX, za, zb, zc, ze, zg, zh, zj, zm, zn, zo, zq, zr, kB, kC, kD, kF, kI, ofConst, cells?, List.length_nil, List.length_cons, List.set_cons_zero, splice, kJ, List.getD_eq_getElem?_getD, List.getElem?_cons_zero, ↓reduceIte, Nat.reduceEqDiff, Option.getD_some, kK, kM, List.nil_append, List.cons_append, List.append_nil, Nat.zero_add, Nat.reduceAdd, Nat.add_zero, freshP, List.map_cons, List.map_nil, List.drop_zero, List.take_zero, List.take_nil, List.drop_nil, Bool.and_true, true_and, and_true, List.not_mem_nil, List.length_map, not_false_eq_true, Nat.le_refl, lg0, kT, kU, kV, kW, lg1, kX, kY, kZ, lg2, wb, wc, lg3, wg, jZ, ↓qaa, ↓qac, ↓qad, ↓qaf, ↓qaj, ↓qak, ↓qam, ↓qas, ↓qcc, List.length_map, List.getElem_map, al_len, al_take, al_isC, Int.toNat_natCast]
  simp only [br, Int.toNat_natCast, decide_eq_true_eq, decide_eq_false_iff_not]
  refine ⟨fun h1 => ?_, fun h1 => ?_⟩
  · have hkl : k < M.length := by omega
    refine ⟨⟨by omega, h1⟩, hkl, ?_⟩
    simp -implicitDefEqProofs only [zc, zd, zg, zh, zj, zt, kB, kD, kF, kI, ofConst, cells?, List.length_nil, List.length_cons, List.set_cons_zero, List.getElem?_cons_zero, ↓reduceIte, Nat.reduceEqDiff, List.append_nil, Nat.zero_add, Nat.reduceAdd, Nat.add_zero, freshP, litsP, List.map_cons, List.map_nil, List.all_cons, List.all_nil, isD, Bool.and_true, Bool.and_self, true_and, and_true, and_self, Nat.reduceLT, lg0, kT, kW, lg1, kX, wa, lg2, wb, lg3, wg, lg4, wl, jZ, ↓qaa, ↓qaw, ↓op_litsf, ↓frzP_n, ↓frzP_c, ↓frzQ_r]
    intro _
    have hmk := mc _ (List.getElem_mem hkl)
    obtain ⟨LL, hLL⟩ : ∃ LL, LL = [a, b] := ⟨_, rfl⟩
    have l2 : LL.length = 2 := by rw [hLL]; rfl
    have l25 : ∀ l ∈ LL, l.length ≤ 25 := by
      intro l hl
      rw [hLL] at hl
      rcases List.mem_cons.1 hl with rfl | hl
      · omega
      · obtain rfl := List.mem_singleton.1 hl; omega
    have lc : cntL M[k] LL = 2 := by rw [hLL]; simp only [cntL]; omega
    refine loopP_intro (fun j : Nat => ⟨[(64, .i j), (63, .i 2), (62, .sl 5 0 2), (13, .i (cntL M[k] (LL.take j))), (12, .ptr 4 0 0), (56, .i k), (55, .i M.length), (54, .ro 3 (M.map Allot.enc)), (10, .ro 3 (b.map Allot.enc)), (9, .ro 3 (a.map Allot.enc)), (7, .ptr 3 0 0), (6, .ptr 2 0 0), (5, .ptr 1 0 0), (4, .ptr 0 0 0)], hP ps rs fr qs ts gr ++ [.var M[k].enc, .arr 1 (LL.map rowA)], 0⟩) (fun j => j ≤ 2) (fun j => 2 - j) 0 (by omega) ?_ ?_
    · rw [hLL]
      simp -implicitDefEqProofs only [kI, List.getElem?_cons_zero, ↓reduceIte, Nat.reduceEqDiff, List.nil_append, List.cons_append, kS, leE, leH, leB, leV, leVs, keepP, liveP, wfE, wfB, wfV, wfL, List.map_cons, List.map_nil, List.take_zero, Bool.and_true, Bool.and_self, true_and, and_true, and_self, V.v.injEq, Value.int.injEq, Value.bool.injEq, lg0, lg1, lg2, lg3, lg4, Int.natCast_zero, hP, List.take_zero, cntL, List.cons_append, List.nil_append, List.map_cons, List.map_nil, rowA]
      exact ⟨rfl, sp_le' _, sp_wf' _⟩
    rintro j hj
    unfold hP
    simp -implicitDefEqProofs only [qW, qX, za, zb, zc, zd, ze, zf, zg, zh, zi, zj, zk, zn, zp, zq, zr, zt, kB, kD, kF, kI, ofConst, List.length_nil, List.length_cons, kJ, List.getD_eq_getElem?_getD, List.getElem?_cons_zero, ↓reduceIte, Nat.reduceEqDiff, Option.getD_some, kK, arrSz, kM, Bool.not_false, ↓kN, ↓kO, kP, List.nil_append, List.cons_append, List.append_nil, Nat.zero_add, Nat.reduceAdd, kR, resP, tupV, List.reverse_cons, List.reverse_nil, kS, leE, leH, leB, leV, leVs, keepP, liveP, wfE, wfB, wfV, wfL, Bool.and_true, Bool.and_self, true_and, and_true, and_self, V.v.injEq, Value.int.injEq, Value.bool.injEq, List.length_map, Bool.false_eq_true, lg0, lg1, lg2, lg3, lg4, jZ, ↓qaa, ↓qac, ↓qae, ↓qag, ↓qai, ↓qap, ↓qar, ↓qax, ↓qbU, ↓qcb, ↓qcc, List.length_map, List.getElem_map, al_2, Int.toNat_natCast, List.cons_append, List.nil_append, rowA_0]
    simp only [br, Int.toNat_natCast, decide_eq_true_eq, decide_eq_false_iff_not]
    refine ⟨fun h2 => ?_, fun h2 => ?_⟩
    · have hj2 : j < LL.length := by omega
      refine ⟨⟨by omega, by omega⟩, hj2, ?_⟩
      intro _
      have hb := cntL_b (m := M[k]) (L := LL.take j) fun x hx => l25 x (List.mem_of_mem_take hx)
      rw [List.length_take] at hb
      have hst := cntL_take (m := M[k]) hj2
      have hll := l25 _ (List.getElem_mem hj2)
      generalize LL[j] = l at *
      refine loopP_intro (fun i : Nat => ⟨[(70, .i i), (69, .i l.length), (68, .ro 3 (l.map Allot.enc)), (64, .i j), (63, .i 2), (62, .sl 5 0 2), (13, .i (cntL M[k] (LL.take j) + cntA M[k] (l.take i))), (12, .ptr 4 0 0), (56, .i k), (55, .i M.length), (54, .ro 3 (M.map Allot.enc)), (10, .ro 3 (b.map Allot.enc)), (9, .ro 3 (a.map Allot.enc)), (7, .ptr 3 0 0), (6, .ptr 2 0 0), (5, .ptr 1 0 0), (4, .ptr 0 0 0)], hP ps rs fr qs ts gr ++ [.var M[k].enc, .arr 1 (LL.map rowA)], 0⟩) (fun i => i ≤ l.length) (fun i => l.length - i) 0 (by omega) ?_ ?_
      · simp -implicitDefEqProofs only [kI, List.getElem?_cons_zero, ↓reduceIte, Nat.reduceEqDiff, List.nil_append, List.cons_append, Nat.add_zero, kS, leE, leH, leB, leV, leVs, keepP, liveP, wfE, wfB, wfV, wfL, List.take_zero, Bool.and_true, Bool.and_self, true_and, and_true, and_self, lg0, lg1, lg2, lg3, lg4, Int.natCast_zero, hP, List.take_zero, cntA, List.cons_append, List.nil_append, Int.add_zero]
        exact ⟨sp_le' _, sp_wf' _⟩
      rintro i hi
      unfold hP
      simp -implicitDefEqProofs only [qW, qX, za, zb, zc, ze, zg, zh, zi, zj, zk, zm, zn, zo, zp, zq, zr, kB, kC, kD, kF, kI, ofConst, cells?, List.length_nil, List.length_cons, List.set_cons_zero, splice, kJ, List.getD_eq_getElem?_getD, List.getElem?_cons_zero, ↓reduceIte, Nat.reduceEqDiff, Option.getD_some, kK, kM, Bool.not_true, ↓kN, ↓kO, kP, List.nil_append, List.cons_append, List.append_nil, Nat.zero_add, Nat.reduceAdd, Nat.add_zero, freshP, kS, leE, leH, leB, leV, leVs, keepP, liveP, wfE, wfB, wfV, wfL, List.map_cons, List.map_nil, List.drop_zero, List.take_zero, List.drop_nil, Bool.and_true, Bool.and_self, true_and, and_true, and_self, V.v.injEq, Value.int.injEq, Value.bool.injEq, List.not_mem_nil, List.length_map, not_false_eq_true, Nat.le_refl, lg0, kT, kU, kW, lg1, kX, kY, lg2, wb, wc, lg3, wg, lg4, wl, lg5, wq, jZ, ↓qaa, ↓qac, ↓qad, ↓qae, ↓qaf, ↓qai, ↓qaj, ↓qak, ↓qam, ↓qap, ↓qas, ↓qbU, ↓qca, ↓qcc, ↓qcd, List.length_map, List.getElem_map, al_len, al_take, al_0, al_1, al_2, al_isC, Int.toNat_natCast, List.cons_append, List.nil_append]
      simp only [br, Int.toNat_natCast, decide_eq_true_eq, decide_eq_false_iff_not]
      refine ⟨fun h3 => ?_, fun h3 => ?_⟩
      · have hil : i < l.length := by omega
        refine ⟨⟨by omega, h3⟩, hil, ?_⟩
        have hsi := cnt_take (m := M[k]) hil
        have hbi := cnt_b (m := M[k]) (L := l.take i)
        rw [List.length_take] at hbi
        simp only [sp_le', sp_wf', and_true]
        cases e1 : (l[i].gate == M[k].gate) <;> cases e2 : (l[i].origin == M[k].origin) <;>
          simp only [Bool.false_eq_true, Bool.true_eq_false, false_implies, true_implies, and_true, true_and, lo, Fx.hi] <;>
          simp only [beq_iff_eq, beq_eq_false_iff_ne] at e1 e2
        · rw [if_neg (by omega), Int.add_zero] at hsi
          exact ⟨⟨by omega, by omega⟩, i + 1, ⟨by omega, by omega⟩, by omega, by rw [hsi]⟩
        · rw [if_neg (by omega), Int.add_zero] at hsi
          exact ⟨⟨by omega, by omega⟩, i + 1, ⟨by omega, by omega⟩, by omega, by rw [hsi]⟩
        · rw [if_neg (by omega), Int.add_zero] at hsi
          exact ⟨⟨by omega, by omega⟩, i + 1, ⟨by omega, by omega⟩, by omega, by rw [hsi]⟩
        · refine ⟨fun h4 => ?_, fun h4 => ?_⟩
          · rw [if_pos ⟨e1, e2, h4⟩] at hsi
            exact ⟨⟨by omega, by omega⟩, ⟨by omega, by omega⟩, i + 1, ⟨by omega, by omega⟩, by omega, by rw [hsi]; omega⟩
          · rw [if_neg (by omega), Int.add_zero] at hsi
            exact ⟨⟨by omega, by omega⟩, i + 1, ⟨by omega, by omega⟩, by omega, by rw [hsi]⟩
      · have hi2 : i = l.length := by omega
        rw [hi2, List.take_length, ← hst]
        exact ⟨⟨by simp only [lo]; omega, by simp only [Fx.hi]; omega⟩, j + 1, ⟨by omega, by omega⟩, ⟨by omega, rfl⟩, sp_le' _, sp_wf' _⟩
    · have hj : j = LL.length := by omega
      rw [hj, List.take_length, lc]
      have hn := (mi _ (List.getElem_mem hkl)).1
      refine ⟨fun h3 => absurd h3 (by decide), fun _ => ⟨fun h3 => by omega, fun _ => ⟨by simp only [lo, hi, maxLen] at *; omega, k + 1, ⟨by omega, by omega⟩, by omega⟩⟩⟩
  · simp -implicitDefEqProofs only [zc, zd, zg, zh, zj, zt, kB, kD, kF, kI, ofConst, cells?, List.length_nil, List.length_cons, List.set_cons_zero, List.getElem?_cons_zero, ↓reduceIte, Nat.reduceEqDiff, List.append_nil, Nat.zero_add, Nat.reduceAdd, Nat.add_zero, freshP, litsP, List.map_cons, List.map_nil, List.all_cons, List.all_nil, isD, Bool.and_true, Bool.and_self, true_and, and_true, and_self, Nat.reduceLT, lg0, kT, kW, lg1, kX, wa, lg2, wb, lg3, wg, jZ, ↓qaa, ↓qaw, ↓op_litsf, ↓frzP_n, ↓frzP_c, ↓frzQ_a]
    intro _
    obtain ⟨PL, hPL⟩ : ∃ PL, PL = [(ps, rs), (qs, ts)] := ⟨_, rfl⟩
    have l2 : PL.length = 2 := by rw [hPL]; rfl
    have lc : ∀ t ∈ PL, ∀ i (hi : i < t.1.length), sumL (cP t.1[i]) M ≤ t.1[i].cap := by
      intro t ht
      rw [hPL] at ht
      rcases List.mem_cons.1 ht with rfl | ht
      · exact ma
      · obtain rfl := List.mem_singleton.1 ht; exact mb
    refine loopP_intro (fun j : Nat => ⟨[(109, .i j), (108, .i 2), (107, .sl 4 0 2), (10, .ro 3 (b.map Allot.enc)), (9, .ro 3 (a.map Allot.enc)), (7, .ptr 3 0 0), (6, .ptr 2 0 0), (5, .ptr 1 0 0), (4, .ptr 0 0 0)], hP ps rs fr qs ts gr ++ [.arr 2 (PL.map rowP)], 0⟩) (fun j => j ≤ 2) (fun j => 2 - j) 0 (by omega) ?_ ?_
    · rw [hPL]
      simp -implicitDefEqProofs only [kI, List.getElem?_cons_zero, ↓reduceIte, Nat.reduceEqDiff, List.nil_append, List.cons_append, kS, leE, leH, leB, leV, leVs, keepP, liveP, wfE, wfB, wfV, wfL, List.map_cons, List.map_nil, Bool.and_true, Bool.and_self, true_and, and_true, and_self, V.v.injEq, Value.int.injEq, Value.bool.injEq, lg0, lg1, lg2, lg3, Int.natCast_zero, hP, List.cons_append, List.nil_append, List.map_cons, List.map_nil, rowP]
      rfl
    rintro j hj
    unfold hP
    simp -implicitDefEqProofs only [qW, qX, za, zb, zc, zd, ze, zg, zh, zj, zm, zn, zo, zp, zq, zr, zt, kx, kB, kC, kD, kF, kI, ofConst, cells?, List.length_nil, List.length_cons, List.set_cons_zero, splice, kJ, List.getD_eq_getElem?_getD, List.getElem?_cons_zero, ↓reduceIte, Nat.reduceEqDiff, Option.getD_some, kK, arrSz, kM, List.nil_append, List.cons_append, List.append_nil, Nat.zero_add, Nat.reduceAdd, Nat.add_zero, freshP, List.map_cons, List.map_nil, List.drop_zero, List.take_zero, List.drop_nil, Bool.and_true, true_and, and_true, List.not_mem_nil, List.length_map, not_false_eq_true, Nat.le_refl, lg0, kT, kU, kW, lg1, kX, kY, lg2, wb, lg3, wg, lg4, wl, jZ, ↓qaa, ↓qac, ↓qaf, ↓qag, ↓qai, ↓qaj, ↓qak, ↓qam, ↓qap, ↓qar, ↓qax, ↓qcc, List.length_map, List.getElem_map, Int.toNat_natCast, List.cons_append, List.nil_append, rowP_len, rowP_0, rowP_take, rowP_isC]
    simp only [br, Int.toNat_natCast, decide_eq_true_eq, decide_eq_false_iff_not]
    refine ⟨fun h2 => ?_, fun h2 => ?_⟩
    · have hj2 : j < PL.length := by omega
      refine ⟨⟨by omega, by omega⟩, hj2, ?_⟩
      intro hml
      have lt := lc _ (List.getElem_mem hj2)
      generalize PL[j] = t at *
      refine loopP_intro (fun i : Nat => ⟨[(116, .i i), (115, .i t.1.length), (114, .ro 3 (t.1.map Spot.enc)), (109, .i j), (108, .i 2), (107, .sl 4 0 2), (10, .ro 3 (b.map Allot.enc)), (9, .ro 3 (a.map Allot.enc)), (7, .ptr 3 0 0), (6, .ptr 2 0 0), (5, .ptr 1 0 0), (4, .ptr 0 0 0)], hP ps rs fr qs ts gr ++ [.arr 2 (PL.map rowP)], 0⟩) (fun i => i ≤ t.1.length) (fun i => t.1.length - i) 0 (by omega) ?_ ?_
      · simp -implicitDefEqProofs only [kI, List.getElem?_cons_zero, ↓reduceIte, Nat.reduceEqDiff, List.nil_append, List.cons_append, kS, leE, leH, leB, leV, leVs, keepP, liveP, wfE, wfB, wfV, wfL, Bool.and_self, and_self, lg0, lg1, lg2, lg3, Int.natCast_zero, hP, List.cons_append, List.nil_append]
      rintro i hi
      unfold hP
      simp -implicitDefEqProofs only [qW, qX, za, zb, zc, ze, zg, zh, zj, zm, zn, zo, zq, zr, kx, kB, kC, kD, kF, kI, ofConst, cells?, List.length_nil, List.length_cons, List.set_cons_zero, splice, kJ, List.getD_eq_getElem?_getD, List.getElem?_cons_zero, ↓reduceIte, Nat.reduceEqDiff, Option.getD_some, kK, kM, List.nil_append, List.cons_append, List.append_nil, Nat.zero_add, Nat.reduceAdd, Nat.add_zero, freshP, kS, leE, leH, leB, leV, leVs, keepP, liveP, wfE, wfB, wfV, wfL, List.map_cons, List.map_nil, List.drop_zero, List.take_zero, List.drop_nil, Bool.and_true, Bool.and_self, true_and, and_true, and_self, V.v.injEq, Value.int.injEq, Value.bool.injEq, List.not_mem_nil, List.length_map, not_false_eq_true, Nat.le_refl, lg0, kT, kU, kW, lg1, kX, kY, lg2, wb, wc, lg3, wg, lg4, wl, jZ, ↓qaa, ↓qad, ↓qaj, ↓qak, ↓qam, ↓qas, ↓qbU, ↓qcc, List.length_map, List.getElem_map, sp_len, sp_take, sp_isC, Int.toNat_natCast, List.cons_append, List.nil_append]
      simp only [br, Int.toNat_natCast, decide_eq_true_eq, decide_eq_false_iff_not]
      refine ⟨fun h3 => ?_, fun h3 => ?_⟩
      · have hil : i < t.1.length := by omega
        refine ⟨⟨by omega, h3⟩, hil, ?_⟩
        have lti := lt i hil
        generalize t.1[i] = x at *
        refine call_is c33 (by simp [als, lendsOk, lendOk, lends, lend, wkL, wk, wkR]) rfl trivial ?_
        unfold als
        simp -implicitDefEqProofs only [zc, zd, zg, zh, zj, zt, kB, kD, kF, kI, ofConst, ↓reduceIte, List.length_map, ↓qax, List.length_map]
        intro hmm
        refine loopP_intro (fun q : Nat => ⟨[(124, .i q), (123, .i M.length), (122, .ro 3 (M.map Allot.enc)), (22, .i (sumL (cP x) (M.take q))), (21, .ptr 5 0 0), (116, .i i), (115, .i t.1.length), (114, .ro 3 (t.1.map Spot.enc)), (109, .i j), (108, .i 2), (107, .sl 4 0 2), (10, .ro 3 (b.map Allot.enc)), (9, .ro 3 (a.map Allot.enc)), (7, .ptr 3 0 0), (6, .ptr 2 0 0), (5, .ptr 1 0 0), (4, .ptr 0 0 0)], hP ps rs fr qs ts gr ++ [.arr 2 (PL.map rowP), .var x.enc], 0⟩) (fun q => q ≤ M.length) (fun q => M.length - q) 0 (by omega) ?_ ?_
        · simp -implicitDefEqProofs only [kI, List.getElem?_cons_zero, ↓reduceIte, Nat.reduceEqDiff, List.nil_append, List.cons_append, kS, leE, leH, leB, leV, leVs, keepP, liveP, wfE, wfB, wfV, wfL, List.take_zero, Bool.and_true, Bool.and_self, true_and, and_true, and_self, lg0, lg1, lg2, lg3, lg4, Int.natCast_zero, hP, List.take_zero, sumL, List.cons_append, List.nil_append]
          exact ⟨sps_le _, sps_wf _⟩
        rintro q hq
        unfold hP
        simp -implicitDefEqProofs only [qW, qX, za, zb, zc, ze, zf, zg, zh, zi, zj, zk, zm, zn, zo, zp, zq, zr, kB, kC, kD, kF, kI, ofConst, cells?, List.length_nil, List.length_cons, List.set_cons_zero, splice, kJ, List.getD_eq_getElem?_getD, List.getElem?_cons_zero, ↓reduceIte, Nat.reduceEqDiff, Option.getD_some, kK, kM, Bool.not_true, Bool.not_false, ↓kN, ↓kO, kP, kQ, List.nil_append, List.cons_append, List.append_nil, Nat.zero_add, Nat.reduceAdd, Nat.add_zero, freshP, kR, resP, tupV, List.reverse_cons, List.reverse_nil, kS, leE, leH, leB, leV, leVs, keepP, liveP, wfE, wfB, wfV, wfL, List.map_cons, List.map_nil, List.drop_zero, List.take_zero, List.drop_nil, Bool.and_true, Bool.and_self, true_and, and_true, and_self, V.v.injEq, Value.int.injEq, Value.bool.injEq, List.not_mem_nil, List.length_map, not_false_eq_true, Bool.false_eq_true, Nat.le_refl, lg0, kT, kU, kW, lg1, kX, kY, lg2, wb, wc, lg3, wg, lg4, wl, lg5, wq, jZ, ↓qaa, ↓qac, ↓qad, ↓qae, ↓qaf, ↓qai, ↓qaj, ↓qak, ↓qam, ↓qap, ↓qas, ↓qbU, ↓qca, ↓qcb, ↓qcc, ↓qce, List.length_map, List.getElem_map, al_len, al_take, al_0, al_1, al_2, al_isC, sp_0, sp_1, sp_2, Int.toNat_natCast, List.cons_append, List.nil_append]
        simp only [br, Int.toNat_natCast, decide_eq_true_eq, decide_eq_false_iff_not]
        refine ⟨fun h4 => ?_, fun h4 => ?_⟩
        · have hql : q < M.length := by omega
          refine ⟨⟨by omega, h4⟩, hql, ?_⟩
          have hx := mi _ (List.getElem_mem hql)
          have hsb := sumL_b (p := cP x) (B := rs.length * 1073741824) (by omega) (inB_take (j := q) mi)
          rw [List.length_take] at hsb
          have hst := sumL_take (p := cP x) hql
          have hmul : (rs.length * 1073741824 : Int) * ((min q M.length : Nat) : Int) ≤ (rs.length * 1073741824 : Int) * 25 := Int.mul_le_mul_of_nonneg_left (by omega) (by omega)
          simp only [cP] at hst
          simp only [sps_le, sps_wf, and_true]
          cases e1 : (x.kind == 2) <;> cases e2 : (M[q].gate == x.num) <;> cases e3 : (x.kind == 3) <;> cases e4 : (M[q].origin == x.num) <;>
            simp only [e1, e2, e3, e4, Bool.true_and, Bool.false_and, Bool.or_true, Bool.or_false, Bool.false_eq_true, Bool.true_eq_false, if_true, if_false, false_implies, true_implies, and_true, true_and, Int.add_zero, lo, Fx.hi] at hst ⊢ <;>
            first
              | exact ⟨⟨by omega, by omega⟩, ⟨by omega, by omega⟩, q + 1, ⟨by omega, by omega⟩, by omega, hst.symm⟩
              | exact ⟨⟨by omega, by omega⟩, q + 1, ⟨by omega, by omega⟩, by omega, hst.symm⟩
        · have hq2 : q = M.length := by omega
          rw [hq2, List.take_length]
          simp only [lo, Fx.hi, maxLen] at *
          exact ⟨fun _ => ⟨fun h5 => by omega, fun _ => ⟨by omega, i + 1, ⟨by omega, by omega⟩, by omega⟩⟩, fun _ => ⟨by omega, i + 1, ⟨by omega, by omega⟩, by omega⟩⟩
      · exact ⟨by simp only [lo, Fx.hi]; omega, j + 1, ⟨by omega, by omega⟩, by omega⟩
    · refine s10 rfl rfl ?_
      simp -implicitDefEqProofs only [zf, zg, zh, zj, kB, kD, kI, ↓reduceIte, List.nil_append, kR, resP, tupV, List.reverse_cons, List.reverse_nil, wfV, Bool.and_self, and_self]
abbrev tLi : Fx.T := .sl 1 (.int .i64)
abbrev tFr : Fx.T := .st [.int .i64, .int .i64, tLi, tLi, tLi]
theorem wf_l {x : List V} (h : WfT tLi x) : ∃ l, x = [li l] := by
  rw [WfT] at h
  obtain ⟨els, h1, _, he⟩ := h
  obtain ⟨l, rfl⟩ := exM (g := encI) (fun x hx => by
    have := he x hx
    simp only [WfT] at this
    obtain ⟨n, rfl, _⟩ := this
    exact ⟨n, rfl⟩)
  exact ⟨l, by simpa [li] using h1⟩
theorem wf_fr {x : V} (h : WfV tFr x) : ∃ f : Fr, x = f.enc := by
  obtain ⟨cs, h, rfl⟩ := h
  rw [WfTs.eq_2] at h
  obtain ⟨a, _, rfl, h1, h⟩ := h
  rw [WfTs.eq_2] at h
  obtain ⟨b, _, rfl, h2, h⟩ := h
  rw [WfTs.eq_2] at h
  obtain ⟨c, _, rfl, h3, h⟩ := h
  rw [WfTs.eq_2] at h
  obtain ⟨d, _, rfl, h4, h⟩ := h
  rw [WfTs.eq_2] at h
  obtain ⟨e, _, rfl, h5, h⟩ := h
  rw [WfTs.eq_1] at h
  subst h
  simp only [WfT] at h1 h2
  obtain ⟨s, rfl, _⟩ := h1
  obtain ⟨k, rfl, _⟩ := h2
  obtain ⟨l1, rfl⟩ := wf_l h3
  obtain ⟨l2, rfl⟩ := wf_l h4
  obtain ⟨l3, rfl⟩ := wf_l h5
  exact ⟨⟨s, k, l1, l2, l3⟩, rfl⟩
theorem fn7 : ∀ xs, WfA [tPl, tFr, tPl, tFr] xs → Fn Try.prog 7 xs [] [] (fun r _ => r = .b true) := by
  intro xs h
  obtain ⟨x1, _, rfl, h1, h⟩ := h
  obtain ⟨x2, _, rfl, h2, h⟩ := h
  obtain ⟨x3, _, rfl, h3, h⟩ := h
  obtain ⟨x4, _, rfl, h4, h⟩ := h
  obtain rfl : _ = [] := h
  obtain ⟨ps, rs, rfl⟩ := wf_plant h1
  obtain ⟨fr, rfl⟩ := wf_fr h2
  obtain ⟨qs, ts, rfl⟩ := wf_plant h3
  obtain ⟨gr, rfl⟩ := wf_fr h4
  exact fn_of' (ok7 ps rs fr qs ts gr)
end Go.Fx.P
