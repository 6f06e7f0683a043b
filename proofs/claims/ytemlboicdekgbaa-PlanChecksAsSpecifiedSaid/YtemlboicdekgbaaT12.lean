import Derived.Test.YtemlboicdekgbaaT11
import Derived.Test.YtemlboicdekgbaaPSan
import Derived.Test.YtemlboicdekgbaaFxRunDefs
set_option linter.unusedVariables false
set_option linter.unusedSimpArgs false
set_option linter.unusedSectionVars false
namespace Go.Fx.P
open Go Go.Fx Go.Proofs
set_option maxRecDepth 20000
theorem san10 : Ok 10 [] (Is (.b true)) := san
theorem s10 {cx : Cx} {e : Env} {h : List Blk} {b : Nat} {K : V → St → Prop} : cx.C = C0 Try.prog → cx.fx = [] → K (.b true) ⟨e, h, b⟩ → callP cx 10 [] ⟨e, h, b⟩ K := by
  intro hc hf hk
  exact call_is (by rw [hc]; exact san10) (by simp [lendsOk, lends, wkL]) rfl (by rw [hf]; trivial) hk
theorem ok14 (n : Int) (l : List Arc) : Ok 14 [net n l, net n l] (Is (.b true)) := by
  refine ok_of lw14 (by simp) ?_
  unfold c14 net
  simp -implicitDefEqProofs only [qV, qW, qZ, za, zb, zc, ze, zf, zg, zh, zi, zj, zk, zm, zo, zq, zr, kA, kC, kD, kH, ofConst, cells?, List.length_nil, List.length_cons, List.set_cons_zero, kI, List.getD_eq_getElem?_getD, List.getElem?_cons_zero, ↓reduceIte, Nat.reduceEqDiff, Option.getD_some, kJ, kL, Bool.not_false, ↓kM, ↓kN, kO, List.nil_append, List.append_nil, Nat.zero_add, Nat.reduceAdd, Nat.add_zero, reduceCtorEq, freshP, kQ, resP, tupV, List.reverse_cons, List.reverse_nil, wfV, true_and, V.v.injEq, Value.int.injEq, Value.bool.injEq, List.length_map, Bool.false_eq_true, lg0, kS, kV, kZ, jX, ↓jY, ↓qaa, ↓qac, ↓qad, ↓qag, ↓qan, ↓qav, ↓qbZ, List.length_map, cxN, args0]
  simp only [br, decide_eq_true_eq, decide_eq_false_iff_not, bne_self_eq_false, Bool.false_eq_true, false_implies, true_implies, true_and]
  intro hm _
  refine loopP_intro (fun k : Nat => ⟨[(5, .i k), (3, .ptr 1 0 0), (2, .ptr 0 0 0)], [.var [.i n, .ro 4 (l.map Arc.enc)], .var [.i n, .ro 4 (l.map Arc.enc)]], 0⟩) (fun k => k ≤ l.length) (fun k => l.length - k) 0 (by omega) ?_ ?_
  · simp -implicitDefEqProofs only [kH, List.getElem?_cons_zero, ↓reduceIte, Nat.reduceEqDiff, kR, leE, leH, leB, leV, leVs, keepP, liveP, wfE, wfB, wfV, wfL, Bool.and_self, and_self, lg0, Int.natCast_zero]
  rintro k hk
  unfold c14l0
  simp -implicitDefEqProofs only [qV, qW, qY, qZ, za, zb, zd, ze, zf, zg, zi, zm, zo, zp, zq, zr, zD, kA, kC, kD, kH, ofConst, List.length_nil, List.length_cons, kI, List.getD_eq_getElem?_getD, List.getElem?_cons_zero, ↓reduceIte, Nat.reduceEqDiff, Option.getD_some, kJ, kL, List.nil_append, List.append_nil, Nat.zero_add, Nat.reduceAdd, kQ, resP, tupV, List.reverse_cons, List.reverse_nil, kR, leE, leH, leB, leV, leVs, keepP, liveP, wfE, wfB, wfV, wfL, List.drop_zero, Bool.and_true, Bool.and_self, true_and, and_true, and_self, V.v.injEq, Value.int.injEq, Value.bool.injEq, List.length_map, Bool.false_eq_true, Nat.le_refl, lg0, jX, ↓jY, ↓qaa, ↓qab, ↓qac, ↓qag, ↓qah, ↓qan, ↓qaq, ↓qav, ↓qbS, ↓qca, List.length_map, List.getElem_map, enc_len, enc_take, Int.toNat_natCast]
  simp only [br, Int.toNat_natCast, decide_eq_true_eq, decide_eq_false_iff_not]
  refine fun _ => ⟨fun h => ?_, fun h => by trivial⟩
  have hka : k < l.length := by omega
  refine ⟨⟨by omega, h⟩, hka, ?_⟩
  simp -implicitDefEqProofs only [List.getElem?_cons_zero, Bool.and_true, Bool.and_self, and_true, and_self, lg0, lg1, lg2, ↓jY, aggC, eqFs, eqC, isKey, eqK, Arc.enc]
  simp only [beq_self_eq_true, Bool.and_true, Bool.not_true, Bool.false_eq_true, false_implies, true_implies, true_and, decide_true]
  exact ⟨⟨by omega, h⟩, hka, by simp only [lo, hi, maxLen] at *; omega, k + 1, ⟨by omega, by omega⟩, by omega⟩
theorem chk_caps {ps : List Spot} {rs : List Road} (h : chkP ps rs = 0) : (ps.length ≤ 100 ∧ rs.length ≤ 1500) ∧ CapsOk ps ∧ RInv ps rs rs.length := by
  unfold chkP at h
  by_cases h1 : 100 < ps.length ∨ 1500 < rs.length
  · rw [if_pos h1] at h; cases h
  rw [if_neg h1] at h
  by_cases h2 : firstE (eAt ps) ps.length 0 ≠ 0
  · rw [if_pos h2] at h; exact absurd h h2
  rw [if_neg h2] at h
  by_cases h3 : ∀ r ∈ rs, SoundP ps r
  · refine ⟨by omega, ?_, ⟨fun j hj _ => h3 _ (List.getElem_mem hj)⟩⟩
    have key : ∀ n i, i ≤ n → i < ps.length → eAt ps i = 0 := by
      intro n
      induction n with
      | zero =>
        intro i hi hil
        by_cases h4 : eAt ps i = 0
        · exact h4
        · exact absurd (firstE_at (n := ps.length) (k := 0) (by omega) (by omega) (fun j _ hj => by omega) h4) (by simp only [ne_eq, Classical.not_not] at h2; rw [h2]; exact fun h5 => h4 h5.symm)
      | succ n ih =>
        intro i hi hil
        by_cases h4 : eAt ps i = 0
        · exact h4
        · exact absurd (firstE_at (n := ps.length) (k := 0) (by omega) (by omega) (fun j _ hj => ih j (by omega) (by omega)) h4) (by simp only [ne_eq, Classical.not_not] at h2; rw [h2]; exact fun h5 => h4 h5.symm)
    intro i hi
    have := key i i (by omega) hi
    rw [eAt_lt hi] at this
    by_cases h4 : rightB ps[i] = false
    · rw [if_pos h4] at this; cases this
    · have h5 : RightP ps[i] := by simpa [rightB] using h4
      exact h5.1
  · rw [if_neg h3] at h; cases h
def noFr : V := .agg [.i 0, .i 0, .nil, .nil, .nil]
theorem ok13e (ps : List Spot) (rs : List Road) (hc : chkP ps rs ≠ 0) : Ok 13 [plant ps rs] (Is (.tup [noFr, .i (chkP ps rs)])) := by
  refine ok_of lw13 (by simp) ?_
  unfold c13 plant sps rds
  simp -implicitDefEqProofs only [qW, qZ, zf, zg, zi, zk, zl, zm, kw, kA, kC, kD, kH, ofConst, cells?, List.length_nil, List.length_cons, List.set_cons_zero, kI, List.getD_eq_getElem?_getD, List.getElem?_cons_zero, ↓reduceIte, Nat.reduceEqDiff, Option.getD_some, List.nil_append, List.append_nil, Nat.zero_add, Nat.reduceAdd, Nat.add_zero, freshP, List.map_cons, List.map_nil, List.drop_zero, List.take_nil, true_and, Nat.le_refl, lg0, kS, kU, kV, kY, kZ, jX, ↓jY, ↓qaa, ↓qad, ↓qah, cxN, args0]
  refine call_is (ok11 ps rs) (by simp [plant, sps, rds, lendsOk, lendOk, lends, lend, wkL, wk, wkR]) rfl trivial ?_
  have hb : (chkP ps rs != 0) = true := by simpa using hc
  simp -implicitDefEqProofs only [qN, rdK, qO, qQ, qR, qT, qV, qW, qZ, za, ze, zf, zg, zi, zm, zn, zq, zB, kw, kA, kB, kC, kD, kH, ofConst, cells?, List.length_nil, List.length_cons, List.set_cons_zero, splice, kI, List.getD_eq_getElem?_getD, List.getElem?_cons_zero, ↓reduceIte, Nat.reduceEqDiff, Option.getD_some, kJ, kL, ↓kM, List.nil_append, List.cons_append, List.append_nil, Nat.zero_add, Nat.reduceAdd, Nat.add_zero, buildP, kQ, resP, tupV, List.reverse_cons, List.reverse_nil, wfV, wfL, List.map_cons, List.map_nil, List.drop_zero, List.take_zero, List.take_nil, List.drop_nil, List.all_cons, List.all_nil, isC, Bool.and_true, Bool.and_self, true_and, and_true, and_self, List.not_mem_nil, List.length_append, not_false_eq_true, Nat.le_refl, lg0, kS, kT, kU, kX, kY, wb, wc, wg, wh, wl, wm, jX, ↓jY, ↓qaa, ↓qad, ↓qah, ↓qai, ↓qak, ↓qbZ, hb]
  rfl
theorem ok3 (ps : List Spot) (rs : List Road) : Ok 3 [plant ps rs] (Is (.b true)) := by
  refine ok_of lw3 (by simp) ?_
  unfold c3 plant sps rds
  simp -implicitDefEqProofs only [qV, qW, qZ, za, zf, zg, zh, zi, zj, zk, zm, zo, zq, zr, kw, kA, kC, kD, kH, ofConst, cells?, List.length_nil, List.length_cons, List.set_cons_zero, kI, List.getD_eq_getElem?_getD, List.getElem?_cons_zero, ↓reduceIte, Nat.reduceEqDiff, Option.getD_some, kJ, kL, Bool.not_true, Bool.not_false, ↓kM, ↓kN, kO, kP, List.nil_append, List.append_nil, Nat.zero_add, Nat.reduceAdd, Nat.add_zero, freshP, List.map_cons, List.map_nil, List.drop_zero, List.take_nil, true_and, List.length_map, Bool.false_eq_true, Nat.le_refl, lg0, kU, kV, kY, jX, ↓jY, ↓qaa, ↓qac, ↓qad, ↓qag, ↓qah, ↓qan, ↓qav, ↓qcb, ↓qcc, List.length_map, cxN, args0]
  simp only [br, decide_eq_true_eq, decide_eq_false_iff_not]
  repeat' (first | (with_reducible refine And.intro ?_ ?_) | (with_reducible refine fun _ => ?_))
  all_goals first
    | omega
    | (refine s10 rfl rfl ?_; simp -implicitDefEqProofs only [ze, zf, zg, zi, kA, kC, kH, ↓reduceIte, List.nil_append, kQ, resP, tupV, List.reverse_cons, List.reverse_nil, wfV, Bool.and_self, and_self]; done)
    | skip
  all_goals (refine call_is (ok11 ps rs) (by simp [plant, sps, rds, lendsOk, lendOk, lends, lend, wkL, wk, wkR]) rfl trivial ?_)
  all_goals simp -implicitDefEqProofs only [qW, qZ, zf, zg, zi, zm, kw, kA, kC, kH, List.length_nil, List.length_cons, kI, List.getD_eq_getElem?_getD, List.getElem?_cons_zero, ↓reduceIte, Nat.reduceEqDiff, Option.getD_some, List.append_nil, Nat.zero_add, Nat.reduceAdd, List.map_cons, List.map_nil, List.drop_zero, List.take_nil, true_and, Nat.le_refl, kU, kY, jX, ↓qaa, ↓qad, ↓qah]
  all_goals (refine call_is (ok12 ps rs) (by simp [plant, sps, rds, lendsOk, lendOk, lends, lend, wkL, wk, wkR]) rfl trivial ?_)
  all_goals simp -implicitDefEqProofs only [qO, qQ, qT, qV, qW, qZ, za, zf, zg, zi, zm, zq, kw, kA, kC, kD, kH, ofConst, List.length_nil, List.length_cons, kI, List.getD_eq_getElem?_getD, List.getElem?_cons_zero, ↓reduceIte, Nat.reduceEqDiff, Option.getD_some, kJ, kL, ↓kN, List.nil_append, List.cons_append, List.append_nil, Nat.zero_add, Nat.reduceAdd, List.map_cons, List.map_nil, List.drop_zero, List.take_nil, Bool.and_true, true_and, and_true, Bool.false_eq_true, Nat.le_refl, kU, kV, kY, jX, ↓qaa, ↓qad, ↓qah, ↓qbZ, bne_self_eq_false]
  all_goals
    by_cases hc : chkP ps rs = 0
    · obtain ⟨⟨hl, hr⟩, hcap, hv⟩ := chk_caps hc
      simp -implicitDefEqProofs only [↓kN, hc, bne_self_eq_false]
      refine s10 rfl rfl ?_
      simp -implicitDefEqProofs only [qa, qN, rdK, qQ, qR, qS, qU, zi, zm, kw, kA, kC, kH, List.length_nil, List.length_cons, kI, List.getD_eq_getElem?_getD, List.getElem?_cons_zero, ↓reduceIte, Nat.reduceEqDiff, Option.getD_some, ↓kM, kO, Nat.zero_add, Nat.reduceAdd, List.map_cons, List.map_nil, List.drop_zero, List.take_nil, Bool.and_true, true_and, and_true, Nat.le_refl, kU, kY, ↓qaa, ↓qad, ↓qah]
      refine call_is (ok15 ps rs hl hr hv) (by simp [plant, sps, rds, net, lendsOk, lendOk, lends, lend, wkL, wk, wkR]) rfl trivial ?_
      simp -implicitDefEqProofs only [qQ, qU, kw, kA, kC, kH, ↓reduceIte, Nat.reduceEqDiff, ↓kM, kO, List.map_cons, List.map_nil, Bool.and_true, and_true, Bool.false_eq_true]
      refine call_is (ok16 ps rs hl hr hv) (by simp [plant, sps, rds, net, lendsOk, lendOk, lends, lend, wkL, wk, wkR]) rfl trivial ?_
      simp -implicitDefEqProofs only [qQ, qU, kw, kA, kC, kH, ↓reduceIte, Nat.reduceEqDiff, ↓kM, kO, List.map_cons, List.map_nil, Bool.and_true, and_true, Bool.false_eq_true]
      refine call_is (ok14 (nodes ps) (netOf ps rs)) (by simp [plant, sps, rds, net, lendsOk, lendOk, lends, lend, wkL, wk, wkR]) rfl trivial ?_
      simp -implicitDefEqProofs only [qa, qb, qN, rdK, qQ, qR, qS, qU, zi, zj, zm, kw, kA, kC, kH, List.length_nil, List.length_cons, kI, List.getD_eq_getElem?_getD, List.getElem?_cons_zero, ↓reduceIte, Nat.reduceEqDiff, Option.getD_some, kL, ↓kM, kO, Nat.zero_add, Nat.reduceAdd, List.map_cons, List.map_nil, List.drop_zero, List.take_nil, Bool.and_true, true_and, and_true, Nat.le_refl, kU, kY, ↓qaa, ↓qad, ↓qah]
      refine call_is (ok17 ps rs hl hcap) (by simp [plant, sps, rds, net, lendsOk, lendOk, lends, lend, wkL, wk, wkR]) rfl trivial ?_
      simp -implicitDefEqProofs only [qQ, qU, kw, kA, kC, kH, ↓reduceIte, Nat.reduceEqDiff, ↓kM, kO, List.map_cons, List.map_nil, Bool.and_true, and_true, Bool.false_eq_true]
      refine call_is (ok18 ps rs hl hcap) (by simp [plant, sps, rds, net, lendsOk, lendOk, lends, lend, wkL, wk, wkR]) rfl trivial ?_
      simp -implicitDefEqProofs only [qa, qb, qe, qP, qR, qS, ze, zi, zj, zq, kA, kC, kH, ↓reduceIte, Nat.reduceEqDiff, kJ, kL, ↓kM, kO, List.nil_append, kQ, resP, tupV, List.reverse_cons, List.reverse_nil, wfV, Bool.and_self, and_self, ↓qbY, beq_self_eq_true]
    · have hb : (chkP ps rs != 0) = true := by simpa using hc
      simp -implicitDefEqProofs only [↓kM, hb]
      refine call_is (ok13e ps rs hc) (by simp [plant, sps, rds, net, lendsOk, lendOk, lends, lend, wkL, wk, wkR]) (by simp [noFr, ren, rens]) trivial ?_
      simp -implicitDefEqProofs only [qW, qZ, zf, zg, zi, zl, zn, kw, kx, kA, kB, kC, kH, ofConst, cells?, List.length_nil, List.length_cons, List.set_cons_zero, splice, kI, List.getD_eq_getElem?_getD, List.getElem?_cons_zero, ↓reduceIte, Nat.reduceEqDiff, Option.getD_some, List.nil_append, List.cons_append, List.append_nil, Nat.zero_add, Nat.reduceAdd, Nat.add_zero, freshP, List.map_cons, List.map_nil, List.take_zero, List.drop_nil, List.all_cons, List.all_nil, isC, Bool.and_true, Bool.and_self, true_and, and_true, and_self, List.not_mem_nil, not_false_eq_true, Nat.le_refl, lg0, kS, kT, kX, wb, wg, wl, jX, ↓jY, ↓qai, ↓qak, ↓qaA, noFr]
      refine s10 rfl rfl ?_
      simp -implicitDefEqProofs only [ze, zf, zg, zh, zi, zj, zq, kA, kC, kH, ↓reduceIte, Nat.reduceEqDiff, kJ, kL, ↓kM, kO, List.nil_append, kQ, resP, tupV, List.reverse_cons, List.reverse_nil, wfV, Bool.and_self, and_self, ↓qbY, beq_self_eq_true]
abbrev tPl : Fx.T := .st [.sl 3 (.st [.int .i64, .int .i64, .int .i64]), .sl 4 (.st [.int .i64, .int .i64, .int .i64, .int .i64])]
theorem fn_of' {f : FuncId} {xs : List V} (h : Ok f xs (Is (.b true))) : Fn Try.prog f xs [] [] (fun r _ => r = .b true) := (okN_post h fun r h' hr => hr.1).2
theorem exM {α β : Type} {g : α → β} : ∀ {els : List β}, (∀ x ∈ els, ∃ a, x = g a) → ∃ l : List α, els = l.map g
  | [], _ => ⟨[], rfl⟩
  | x :: r, h => by
    obtain ⟨a, rfl⟩ := h x List.mem_cons_self
    obtain ⟨l, rfl⟩ := exM (els := r) fun y hy => h y (List.mem_cons_of_mem _ hy)
    exact ⟨a :: l, rfl⟩
theorem wf_sp {x : List V} (h : WfT (.st [.int .i64, .int .i64, .int .i64]) x) : ∃ a : Spot, x = a.enc := by
  simp only [WfT, WfTs] at h
  obtain ⟨_, _, rfl, ⟨a, rfl, _⟩, _, _, rfl, ⟨b, rfl, _⟩, _, _, rfl, ⟨c, rfl, _⟩, rfl⟩ := h
  exact ⟨⟨a, b, c⟩, rfl⟩
theorem wf_rd {x : List V} (h : WfT (.st [.int .i64, .int .i64, .int .i64, .int .i64]) x) : ∃ a : Road, x = a.enc := by
  simp only [WfT, WfTs] at h
  obtain ⟨_, _, rfl, ⟨a, rfl, _⟩, _, _, rfl, ⟨b, rfl, _⟩, _, _, rfl, ⟨c, rfl, _⟩, _, _, rfl, ⟨d, rfl, _⟩, rfl⟩ := h
  exact ⟨⟨a, b, c, d⟩, rfl⟩
theorem wf_plant {x : V} (h : WfV tPl x) : ∃ ps rs, x = plant ps rs := by
  simp only [WfV] at h
  obtain ⟨cs, h, rfl⟩ := h
  rw [WfTs.eq_2] at h
  obtain ⟨a, b, rfl, h1, h2⟩ := h
  rw [WfTs.eq_2] at h2
  obtain ⟨c, d, rfl, h3, h4⟩ := h2
  rw [WfTs.eq_1] at h4
  subst h4
  rw [WfT] at h1
  obtain ⟨els, rfl, _, he⟩ := h1
  obtain ⟨ps, rfl⟩ := exM (fun x hx => wf_sp (he x hx))
  rw [WfT] at h3
  obtain ⟨els, rfl, _, he⟩ := h3
  obtain ⟨rs, rfl⟩ := exM (fun x hx => wf_rd (he x hx))
  exact ⟨ps, rs, rfl⟩
theorem fn3 : ∀ xs, WfA [tPl] xs → Fn Try.prog 3 xs [] [] (fun r _ => r = .b true) := by
  intro xs h
  obtain ⟨x1, _, rfl, h1, h⟩ := h
  obtain rfl : _ = [] := h
  obtain ⟨ps, rs, rfl⟩ := wf_plant h1
  exact fn_of' (ok3 ps rs)
end Go.Fx.P
