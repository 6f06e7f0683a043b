import Derived.Test.YtmddpcjkpbjkeaaT18
import Derived.Test.YtmddpcjkpbjkeaaFSan
import Derived.Test.YtmddpcjkpbjkeaaFxLaw
import Derived.Test.YtmddpcjkpbjkeaaFxRunSound
set_option linter.unusedVariables false
set_option linter.unusedSimpArgs false
set_option linter.unusedSectionVars false
namespace Go.Fx.F
open Go Go.Fx Go.Proofs
set_option maxRecDepth 20000
def rnet (n : Int) (arcs : List Arc) : V := .agg [.i n, .ro 4 (arcs.map Arc.enc)]
def rli (l : List Int) : V := .ro 1 (l.map encI)
def rlb (l : List Bool) : V := .ro 1 (l.map encB)
theorem valOf {n : Int} {arcs : List Arc} (h : validB n arcs = true) : ∃ N : Nat, n = N ∧ Val N arcs := by
  simp only [validB, Bool.and_eq_true, decide_eq_true_eq, List.all_eq_true, validA] at h
  refine ⟨n.toNat, by omega, ⟨by omega, by omega, fun a ha => ?_⟩⟩
  have := h.2 a ha
  omega
theorem possOf {arcs : List Arc} {flow : List Int} (h : possB arcs flow = true) : flow.length = arcs.length ∧ possP arcs flow := by
  simpa [possB] using h
theorem sanOk : Ok 10 [] (Is (.b true)) := san
theorem ok8 (n : Int) (arcs : List Arc) (f t : Int) (flow : List Int) (cut : List Bool) : Ok 8 [rnet n arcs, .i f, .i t, rli flow, rlb cut] (Is (.b true)) := by
  refine ok_of lw8 (by simp) ?_
  unfold c8
  by_cases q1 : 30 < n
  · by_cases q2 : n ≤ 256
    · simp -implicitDefEqProofs only [qw, rdK, qx, qz, qA, qC, qE, qF, qI, qJ, qO, qP, qQ, qR, qS, qT, qV, qX, qZ, zb, zD, zJ, zL, zM, zP, ofConst, cells?, List.length_nil, List.length_cons, List.set_cons_zero, zQ, List.getD_eq_getElem?_getD, List.getElem?_cons_zero, ↓reduceIte, Nat.reduceEqDiff, Option.getD_some, zR, zT, Bool.not_true, Bool.not_false, ↓zU, ↓zV, zW, List.nil_append, List.append_nil, Nat.zero_add, Nat.reduceAdd, Nat.add_zero, freshP, List.map_cons, List.map_nil, List.drop_zero, List.take_nil, Bool.and_true, true_and, and_true, List.length_map, Bool.false_eq_true, Nat.le_refl, lg0, ke, kf, ki, jo, ↓jp, ↓jr, ↓ju, ↓jy, ↓jz, ↓jE, ↓jM, ↓qaS, ↓qaT, List.length_map, cx0_fx, args0, rnet, rli, rlb, q1, q2, decide_true]
      refine call_is sanOk ?_ rfl ?_
      · simp [net, li, lb, lendsOk, lendOk, lends, lend, wkL, wk, wkB, pos]
      simp -implicitDefEqProofs only [qN, qO, qP, qR, zJ, zL, zP, ↓reduceIte, List.nil_append, zY, resP, tupV, List.reverse_cons, List.reverse_nil, wfV, Bool.and_self, and_self]
    · simp -implicitDefEqProofs only [qw, rdK, qx, qz, qA, qC, qE, qF, qI, qJ, qO, qP, qQ, qR, qS, qT, qV, qX, qZ, zb, zD, zJ, zL, zM, zP, ofConst, cells?, List.length_nil, List.length_cons, List.set_cons_zero, zQ, List.getD_eq_getElem?_getD, List.getElem?_cons_zero, ↓reduceIte, Nat.reduceEqDiff, Option.getD_some, zR, zT, Bool.not_true, Bool.not_false, ↓zU, ↓zV, zW, List.nil_append, List.append_nil, Nat.zero_add, Nat.reduceAdd, Nat.add_zero, freshP, List.map_cons, List.map_nil, List.drop_zero, List.take_nil, Bool.and_true, true_and, and_true, List.length_map, Bool.false_eq_true, Nat.le_refl, lg0, ke, kf, ki, jo, ↓jp, ↓jr, ↓ju, ↓jy, ↓jz, ↓jE, ↓jM, ↓qaS, ↓qaT, List.length_map, cx0_fx, args0, rnet, rli, rlb, q1, q2, decide_true, decide_false]
      simp only [br, decide_eq_true_eq, decide_eq_false_iff_not]
      have hv : validB n arcs = false := by
        simp [validB]; omega
      refine fun hm => ⟨fun h => ?_, fun h => ?_⟩
      · refine call_is sanOk ?_ rfl ?_
        · simp [net, li, lb, lendsOk, lendOk, lends, lend, wkL, wk, wkB, pos]
        simp -implicitDefEqProofs only [qN, qO, qP, qR, zJ, zL, zP, ↓reduceIte, List.nil_append, zY, resP, tupV, List.reverse_cons, List.reverse_nil, wfV, Bool.and_self, and_self]
      · refine call_is (ok25 n arcs) ?_ rfl ?_
        · simp [net, li, lb, lendsOk, lendOk, lends, lend, wkL, wk, wkB, pos]
        simp -implicitDefEqProofs only [qz, qC, zD, zJ, zL, zP, ↓reduceIte, Nat.reduceEqDiff, List.map_cons, List.map_nil, Bool.and_true, and_true, Bool.false_eq_true, cx0_fx]
        refine call_is (ok26 n arcs) ?_ rfl ?_
        · simp [net, li, lb, lendsOk, lendOk, lends, lend, wkL, wk, wkB, pos]
        simp -implicitDefEqProofs only [qq, qy, qA, qE, qF, qI, qJ, qP, qV, zl, zD, zJ, zL, zP, List.length_nil, List.length_cons, zQ, List.getD_eq_getElem?_getD, List.getElem?_cons_zero, ↓reduceIte, Nat.reduceEqDiff, Option.getD_some, zS, zT, ↓zV, List.append_nil, Nat.zero_add, Nat.reduceAdd, List.map_cons, List.map_nil, List.drop_zero, List.take_nil, true_and, Nat.le_refl, ke, ki, jo, ↓jr, ↓ju, ↓jz, bne_self_eq_false]
        refine call_is (ok26 n arcs) ?_ rfl ?_
        · simp [net, li, lb, lendsOk, lendOk, lends, lend, wkL, wk, wkB, pos]
        simp -implicitDefEqProofs only [qa, qw, rdK, qx, qz, qA, qC, qE, qF, qI, qJ, qO, qP, qR, qV, zd, zD, zJ, zL, zP, List.length_nil, List.length_cons, zQ, List.getD_eq_getElem?_getD, List.getElem?_cons_zero, ↓reduceIte, Nat.reduceEqDiff, Option.getD_some, zS, zT, List.append_nil, Nat.zero_add, Nat.reduceAdd, reduceCtorEq, List.map_cons, List.map_nil, List.drop_zero, List.take_nil, Bool.and_true, true_and, and_true, Nat.le_refl, ke, ki, jo, ↓jr, ↓ju, ↓jz, cx0_fx]
        simp -implicitDefEqProofs only [hv, Bool.not_false, ↓zU]
        refine call_is sanOk ?_ rfl ?_
        · simp [net, li, lb, lendsOk, lendOk, lends, lend, wkL, wk, wkB, pos]
        simp -implicitDefEqProofs only [qN, qO, qP, qR, zJ, zL, zP, ↓reduceIte, List.nil_append, zY, resP, tupV, List.reverse_cons, List.reverse_nil, wfV, Bool.and_self, and_self]
  simp -implicitDefEqProofs only [qw, rdK, qx, qz, qA, qC, qE, qF, qI, qJ, qO, qP, qQ, qR, qS, qT, qV, qX, qZ, zb, zD, zJ, zL, zM, zP, ofConst, cells?, List.length_nil, List.length_cons, List.set_cons_zero, zQ, List.getD_eq_getElem?_getD, List.getElem?_cons_zero, ↓reduceIte, Nat.reduceEqDiff, Option.getD_some, zR, zT, Bool.not_true, Bool.not_false, ↓zU, ↓zV, zW, List.nil_append, List.append_nil, Nat.zero_add, Nat.reduceAdd, Nat.add_zero, freshP, List.map_cons, List.map_nil, List.drop_zero, List.take_nil, Bool.and_true, true_and, and_true, List.length_map, Bool.false_eq_true, Nat.le_refl, lg0, ke, kf, ki, jo, ↓jp, ↓jr, ↓ju, ↓jy, ↓jz, ↓jE, ↓jM, ↓qaS, ↓qaT, List.length_map, cx0_fx, args0, rnet, rli, rlb, q1, decide_false]
  simp only [br, decide_eq_true_eq, decide_eq_false_iff_not]
  refine fun hm => ⟨fun h => ?_, fun h => ?_⟩
  · refine call_is sanOk ?_ rfl ?_
    · simp [net, li, lb, lendsOk, lendOk, lends, lend, wkL, wk, wkB, pos]
    simp -implicitDefEqProofs only [qN, qO, qP, qR, zJ, zL, zP, ↓reduceIte, List.nil_append, zY, resP, tupV, List.reverse_cons, List.reverse_nil, wfV, Bool.and_self, and_self]
  refine call_is (ok25 n arcs) ?_ rfl ?_
  · simp [net, li, lb, lendsOk, lendOk, lends, lend, wkL, wk, wkB, pos]
  simp -implicitDefEqProofs only [qz, qC, zD, zJ, zL, zP, ↓reduceIte, Nat.reduceEqDiff, List.map_cons, List.map_nil, Bool.and_true, and_true, Bool.false_eq_true, cx0_fx]
  refine call_is (ok26 n arcs) ?_ rfl ?_
  · simp [net, li, lb, lendsOk, lendOk, lends, lend, wkL, wk, wkB, pos]
  simp -implicitDefEqProofs only [qq, qy, qA, qE, qF, qI, qJ, qP, qV, zl, zD, zJ, zL, zP, List.length_nil, List.length_cons, zQ, List.getD_eq_getElem?_getD, List.getElem?_cons_zero, ↓reduceIte, Nat.reduceEqDiff, Option.getD_some, zS, zT, ↓zV, List.append_nil, Nat.zero_add, Nat.reduceAdd, List.map_cons, List.map_nil, List.drop_zero, List.take_nil, true_and, Nat.le_refl, ke, ki, jo, ↓jr, ↓ju, ↓jz, bne_self_eq_false]
  refine call_is (ok26 n arcs) ?_ rfl ?_
  · simp [net, li, lb, lendsOk, lendOk, lends, lend, wkL, wk, wkB, pos]
  simp -implicitDefEqProofs only [qa, qw, rdK, qx, qz, qA, qC, qE, qF, qI, qJ, qO, qP, qR, qV, zd, zD, zJ, zL, zP, List.length_nil, List.length_cons, zQ, List.getD_eq_getElem?_getD, List.getElem?_cons_zero, ↓reduceIte, Nat.reduceEqDiff, Option.getD_some, zS, zT, List.append_nil, Nat.zero_add, Nat.reduceAdd, reduceCtorEq, List.map_cons, List.map_nil, List.drop_zero, List.take_nil, Bool.and_true, true_and, and_true, Nat.le_refl, ke, ki, jo, ↓jr, ↓ju, ↓jz, cx0_fx]
  cases hv : validB n arcs with
  | false =>
    simp -implicitDefEqProofs only [Bool.not_false, ↓zU]
    refine call_is sanOk ?_ rfl ?_
    · simp [net, li, lb, lendsOk, lendOk, lends, lend, wkL, wk, wkB, pos]
    simp -implicitDefEqProofs only [qN, qO, qP, qR, zJ, zL, zP, ↓reduceIte, List.nil_append, zY, resP, tupV, List.reverse_cons, List.reverse_nil, wfV, Bool.and_self, and_self]
  | true =>
    simp -implicitDefEqProofs only [Bool.not_true, ↓zV]
    obtain ⟨N, rfl, hV⟩ := valOf hv
    refine call_is (ok17 N arcs f t flow hV) ?_ rfl ?_
    · simp [net, li, lb, lendsOk, lendOk, lends, lend, wkL, wk, wkB, pos]
    simp -implicitDefEqProofs only [qz, qC, zD, zJ, zL, zP, ↓reduceIte, Nat.reduceEqDiff, List.map_cons, List.map_nil, Bool.and_true, and_true, Bool.false_eq_true, cx0_fx]
    refine call_is (ok27 N arcs f t flow hV) ?_ rfl ?_
    · simp [net, li, lb, lendsOk, lendOk, lends, lend, wkL, wk, wkB, pos]
    simp -implicitDefEqProofs only [qa, qe, qw, rdK, qz, qA, qB, qD, qR, qV, qZ, zD, zJ, zL, zP, List.length_nil, List.length_cons, zQ, List.getD_eq_getElem?_getD, List.getElem?_cons_zero, ↓reduceIte, Nat.reduceEqDiff, Option.getD_some, zR, ↓zV, zW, Nat.zero_add, Nat.reduceAdd, reduceCtorEq, List.map_cons, List.map_nil, List.drop_zero, List.take_nil, Bool.and_true, true_and, and_true, Bool.false_eq_true, Nat.le_refl, ke, ki, ↓jr, ↓ju, ↓jz, ↓qaQ, cx0_fx, bne_self_eq_false]
    refine call_is (ok16 N arcs f t flow cut hV) ?_ rfl ?_
    · simp [net, li, lb, lendsOk, lendOk, lends, lend, wkL, wk, wkB, pos]
    simp -implicitDefEqProofs only [qz, qD, zD, zJ, zL, zP, ↓reduceIte, Nat.reduceEqDiff, ↓zV, zW, List.map_cons, List.map_nil, Bool.and_true, and_true, Bool.false_eq_true, cx0_fx]
    refine call_is (ok28 N arcs f t flow cut hV) ?_ rfl ?_
    · simp [net, li, lb, lendsOk, lendOk, lends, lend, wkL, wk, wkB, pos]
    simp -implicitDefEqProofs only [qa, qb, qc, qe, qf, qq, qw, rdK, qx, qy, qz, qA, qB, qD, qE, qF, qI, qJ, qP, qR, qS, qV, qX, qZ, zb, zl, zD, zJ, zL, zM, zP, ofConst, List.length_nil, List.length_cons, zQ, List.getD_eq_getElem?_getD, List.getElem?_cons_zero, ↓reduceIte, Nat.reduceEqDiff, Option.getD_some, zR, zS, zT, Bool.not_true, ↓zU, ↓zV, zW, List.append_nil, Nat.zero_add, Nat.reduceAdd, Nat.add_zero, reduceCtorEq, List.map_cons, List.map_nil, List.drop_zero, List.take_nil, Bool.and_true, true_and, and_true, List.length_map, Bool.false_eq_true, Nat.le_refl, ke, ki, jo, ↓jp, ↓jr, ↓ju, ↓jy, ↓jz, ↓jE, ↓jM, ↓qaP, List.length_map, cx0_fx, bne_self_eq_false]
    intro hcm
    have hN := hV.hn
    have hL := hV.hl
    by_cases hc : (cut.length : Int) = N
    · have hc' : cut.length = N := by omega
      have hcb : ((cut.length : Int) == N) = true := by simp [hc]
      simp -implicitDefEqProofs only [↓zU, hcb]
      refine call_is (ok18 N arcs cut hV hc') ?_ rfl ?_
      · simp [net, li, lb, lendsOk, lendOk, lends, lend, wkL, wk, wkB, pos]
      simp -implicitDefEqProofs only [qz, qD, zD, zJ, zL, zP, ↓reduceIte, Nat.reduceEqDiff, ↓zU, zW, List.map_cons, List.map_nil, Bool.and_true, and_true, Bool.false_eq_true, cx0_fx]
      refine call_is (ok29 N arcs cut hV hc') ?_ rfl ?_
      · simp [net, li, lb, lendsOk, lendOk, lends, lend, wkL, wk, wkB, pos]
      simp -implicitDefEqProofs only [qb, qe, qy, qA, qB, qE, qF, qI, qJ, qP, qR, qS, qV, qZ, zD, zJ, zL, zP, List.length_nil, List.length_cons, zQ, List.getD_eq_getElem?_getD, List.getElem?_cons_zero, ↓reduceIte, Nat.reduceEqDiff, Option.getD_some, zR, zT, ↓zU, ↓zV, zW, List.append_nil, Nat.zero_add, Nat.reduceAdd, reduceCtorEq, List.map_cons, List.map_nil, List.drop_zero, List.take_nil, true_and, Nat.le_refl, ke, ki, jo, ↓jr, ↓ju, ↓jz, ↓qaQ, bne_self_eq_false]
      refine call_is (ok21 N arcs flow) ?_ rfl ?_
      · simp [net, li, lb, lendsOk, lendOk, lends, lend, wkL, wk, wkB, pos]
      simp -implicitDefEqProofs only [qE, qF, qI, qJ, qK, qL, qO, qP, qR, qV, qX, zd, zD, zJ, zL, zM, zP, ofConst, List.length_nil, List.length_cons, zQ, List.getD_eq_getElem?_getD, List.getElem?_cons_zero, ↓reduceIte, Nat.reduceEqDiff, Option.getD_some, zS, zT, List.append_nil, Nat.zero_add, Nat.add_zero, List.map_nil, jo, ↓jp, ↓jr, ↓ju, ↓jy, ↓jE, cx0_fx]
      cases hp : possB arcs flow with
      | false =>
        simp -implicitDefEqProofs only [Bool.not_false, ↓zU]
        refine call_is sanOk ?_ rfl ?_
        · simp [net, li, lb, lendsOk, lendOk, lends, lend, wkL, wk, wkB, pos]
        simp -implicitDefEqProofs only [qN, qO, qP, qR, zJ, zL, zP, ↓reduceIte, List.nil_append, zY, resP, tupV, List.reverse_cons, List.reverse_nil, wfV, Bool.and_self, and_self]
      | true =>
        simp -implicitDefEqProofs only [Bool.not_true, ↓zV]
        have hP := possOf hp
        have hf := hV.flow hP.1 hP.2
        refine loopP_intro (fun k : Nat => ⟨[(83, .i k), (82, .i N), (5, .ptr 0 0 0), (3, .ro 1 (flow.map encI))], [.var [.i N, .ro 4 (arcs.map Arc.enc)]], 0⟩) (fun k => k ≤ N) (fun k => N - k) 0 (by simp) ?_ ?_
        · simp -implicitDefEqProofs only [zP, List.getElem?_cons_zero, ↓reduceIte, Nat.reduceEqDiff, reduceCtorEq, zZ, leE, leH, leB, leV, leVs, keepP, liveP, wfE, wfB, wfV, wfL, Bool.and_self, and_self, leVs, leV, Int.natCast_zero]
        intro k hk
        simp -implicitDefEqProofs only [qa, qw, rdK, qx, qz, qA, qC, qE, qF, qI, qJ, qK, qM, qO, qP, qR, qV, qZ, zD, zJ, zL, zP, List.length_nil, List.length_cons, zQ, List.getD_eq_getElem?_getD, List.getElem?_cons_zero, ↓reduceIte, Nat.reduceEqDiff, Option.getD_some, zR, zT, List.append_nil, Nat.zero_add, Nat.reduceAdd, List.map_cons, List.map_nil, List.drop_zero, List.take_nil, Bool.and_true, true_and, and_true, Bool.false_eq_true, Nat.le_refl, ke, ki, jo, ↓jr, ↓ju, ↓jz, ↓qaR, cx0_fx]
        simp only [br, decide_eq_true_eq, decide_eq_false_iff_not]
        refine ⟨fun h => ?_, fun h => ?_⟩
        · refine call_is (ok15 N k arcs flow hP.1 (by omega) hN.2 hf (fun a ha => (hV.ha a ha).1) (by omega)) ?_ rfl ?_
          · simp [net, li, lb, lendsOk, lendOk, lends, lend, wkL, wk, wkB, pos]
          simp -implicitDefEqProofs only [qz, qC, zD, zJ, zL, zP, ↓reduceIte, Nat.reduceEqDiff, List.map_cons, List.map_nil, Bool.and_true, and_true, Bool.false_eq_true, cx0_fx]
          refine call_is (ok30 N k arcs flow hP.1 (by omega) hf) ?_ rfl ?_
          · simp [net, li, lb, lendsOk, lendOk, lends, lend, wkL, wk, wkB, pos]
          simp -implicitDefEqProofs only [qe, qy, qA, qE, qF, qJ, qO, qP, qR, qZ, zJ, zL, zM, zP, ofConst, List.length_nil, List.length_cons, List.getElem?_cons_zero, ↓reduceIte, Nat.reduceEqDiff, zR, zT, ↓zV, List.append_nil, Nat.zero_add, zZ, leE, leH, leB, leV, leVs, keepP, liveP, wfE, wfB, wfV, wfL, Bool.and_true, Bool.and_self, true_and, and_true, and_self, V.v.injEq, Value.int.injEq, Value.bool.injEq, jo, ↓qaJ, ↓qaQ, bne_self_eq_false]
          exact ⟨by simp only [lo, hi]; omega, k + 1, ⟨by omega, by omega⟩, by simp⟩
        refine call_is sanOk ?_ rfl ?_
        · simp [net, li, lb, lendsOk, lendOk, lends, lend, wkL, wk, wkB, pos]
        simp -implicitDefEqProofs only [qa, qw, rdK, qz, qA, qB, qD, qR, qV, zD, zJ, zL, zP, List.length_nil, List.length_cons, zQ, List.getD_eq_getElem?_getD, List.getElem?_cons_zero, ↓reduceIte, Nat.reduceEqDiff, Option.getD_some, ↓zU, zW, Nat.zero_add, Nat.reduceAdd, List.map_cons, List.map_nil, List.drop_zero, List.take_nil, Bool.and_true, true_and, and_true, Nat.le_refl, ke, ki, ↓jr, ↓ju, ↓jz, cx0_fx]
        have e1 := ok32 N arcs flow hV hP.1 hP.2
        have e2 := ok33 N arcs flow hV hP.1 hP.2
        have e3 := ok31 N (restA arcs flow arcs.length)
        generalize arcs.length = L at e1 e2 e3
        cases L with
        | zero =>
          refine call_isA [net N arcs, li flow] _ (.agg [.i N, .nil]) _ [] e1 ?_ rfl rfl ?_
          · simp [net, li, lb, lendsOk, lendOk, lends, lend, wkL, wk, wkB, pos]
          simp -implicitDefEqProofs only [qz, qD, zD, zJ, zL, zP, ↓reduceIte, Nat.reduceEqDiff, ↓zU, zW, List.append_nil, List.map_cons, List.map_nil, Bool.and_true, and_true, Bool.false_eq_true, cx0_fx]
          refine call_isA [net N arcs, li flow] _ (.agg [.i N, .nil]) _ [] e2 ?_ rfl rfl ?_
          · simp [net, li, lb, lendsOk, lendOk, lends, lend, wkL, wk, wkB, pos]
          simp -implicitDefEqProofs only [qz, qD, zD, zJ, zL, zP, ↓reduceIte, Nat.reduceEqDiff, ↓zU, zW, List.append_nil, List.map_cons, List.map_nil, Bool.and_true, and_true, Bool.false_eq_true, cx0_fx]
          refine call_is e3 ?_ rfl ?_
          · simp [net, lendsOk, lendOk, lends, lend, wkL, wk, wkB, pos, restA]
          simp -implicitDefEqProofs only [qa, qb, qy, qA, qN, qR, qS, zJ, zL, zP, ↓reduceIte, Nat.reduceEqDiff, zT, ↓zU, List.nil_append, zY, resP, tupV, List.reverse_cons, List.reverse_nil, wfV, Bool.and_self, and_self]
        | succ m =>
          refine call_isA [net N arcs, li flow] _ (.agg [.i N, .sl 6 0 (2 * (m + 1))]) _ [.dead, .dead, .dead, .dead, .dead, .arr 4 (restTo arcs flow (m + 1))] e1 ?_ rfl rfl ?_
          · simp [net, li, lb, lendsOk, lendOk, lends, lend, wkL, wk, wkB, pos]
          simp -implicitDefEqProofs only [qz, qD, zD, zJ, zL, zP, ↓reduceIte, Nat.reduceEqDiff, ↓zU, zW, List.nil_append, List.cons_append, List.map_cons, List.map_nil, Bool.and_true, and_true, Bool.false_eq_true, cx0_fx]
          refine call_isA [net N arcs, li flow] _ (.agg [.i N, .sl 12 0 (2 * (m + 1))]) _ [.dead, .dead, .dead, .dead, .dead, .arr 4 (restTo arcs flow (m + 1))] e2 ?_ rfl rfl ?_
          · simp [net, li, lb, lendsOk, lendOk, lends, lend, wkL, wk, wkB, pos]
          simp -implicitDefEqProofs only [qz, qD, zD, zJ, zL, zP, ↓reduceIte, Nat.reduceEqDiff, ↓zU, zW, List.nil_append, List.cons_append, List.map_cons, List.map_nil, Bool.and_true, and_true, Bool.false_eq_true, cx0_fx]
          refine call_is e3 ?_ rfl ?_
          · simp [net, lendsOk, lendOk, lends, lend, wkL, wk, wkB, blk, restTo_len, ← restA_enc]
            exact restTo_take arcs flow (m + 1)
          simp -implicitDefEqProofs only [qa, qb, qy, qA, qN, qR, qS, zJ, zL, zP, ↓reduceIte, Nat.reduceEqDiff, zT, ↓zU, List.nil_append, zY, resP, tupV, List.reverse_cons, List.reverse_nil, wfV, Bool.and_self, and_self]
    · have hcb : ((cut.length : Int) == N) = false := by simp [hc]
      simp -implicitDefEqProofs only [↓zV, hcb]
      refine call_is (ok21 N arcs flow) ?_ rfl ?_
      · simp [net, li, lb, lendsOk, lendOk, lends, lend, wkL, wk, wkB, pos]
      simp -implicitDefEqProofs only [qE, qF, qI, qJ, qK, qL, qO, qP, qR, qV, qX, zd, zD, zJ, zL, zM, zP, ofConst, List.length_nil, List.length_cons, zQ, List.getD_eq_getElem?_getD, List.getElem?_cons_zero, ↓reduceIte, Nat.reduceEqDiff, Option.getD_some, zS, zT, List.append_nil, Nat.zero_add, Nat.add_zero, List.map_nil, jo, ↓jp, ↓jr, ↓ju, ↓jy, ↓jE, cx0_fx]
      cases hp : possB arcs flow with
      | false =>
        simp -implicitDefEqProofs only [Bool.not_false, ↓zU]
        refine call_is sanOk ?_ rfl ?_
        · simp [net, li, lb, lendsOk, lendOk, lends, lend, wkL, wk, wkB, pos]
        simp -implicitDefEqProofs only [qN, qO, qP, qR, zJ, zL, zP, ↓reduceIte, List.nil_append, zY, resP, tupV, List.reverse_cons, List.reverse_nil, wfV, Bool.and_self, and_self]
      | true =>
        simp -implicitDefEqProofs only [Bool.not_true, ↓zV]
        have hP := possOf hp
        have hf := hV.flow hP.1 hP.2
        refine loopP_intro (fun k : Nat => ⟨[(83, .i k), (82, .i N), (5, .ptr 0 0 0), (3, .ro 1 (flow.map encI))], [.var [.i N, .ro 4 (arcs.map Arc.enc)]], 0⟩) (fun k => k ≤ N) (fun k => N - k) 0 (by simp) ?_ ?_
        · simp -implicitDefEqProofs only [zP, List.getElem?_cons_zero, ↓reduceIte, Nat.reduceEqDiff, reduceCtorEq, zZ, leE, leH, leB, leV, leVs, keepP, liveP, wfE, wfB, wfV, wfL, Bool.and_self, and_self, leVs, leV, Int.natCast_zero]
        intro k hk
        simp -implicitDefEqProofs only [qa, qw, rdK, qx, qz, qA, qC, qE, qF, qI, qJ, qK, qM, qO, qP, qR, qV, qZ, zD, zJ, zL, zP, List.length_nil, List.length_cons, zQ, List.getD_eq_getElem?_getD, List.getElem?_cons_zero, ↓reduceIte, Nat.reduceEqDiff, Option.getD_some, zR, zT, List.append_nil, Nat.zero_add, Nat.reduceAdd, List.map_cons, List.map_nil, List.drop_zero, List.take_nil, Bool.and_true, true_and, and_true, Bool.false_eq_true, Nat.le_refl, ke, ki, jo, ↓jr, ↓ju, ↓jz, ↓qaR, cx0_fx]
        simp only [br, decide_eq_true_eq, decide_eq_false_iff_not]
        refine ⟨fun h => ?_, fun h => ?_⟩
        · refine call_is (ok15 N k arcs flow hP.1 (by omega) hN.2 hf (fun a ha => (hV.ha a ha).1) (by omega)) ?_ rfl ?_
          · simp [net, li, lb, lendsOk, lendOk, lends, lend, wkL, wk, wkB, pos]
          simp -implicitDefEqProofs only [qz, qC, zD, zJ, zL, zP, ↓reduceIte, Nat.reduceEqDiff, List.map_cons, List.map_nil, Bool.and_true, and_true, Bool.false_eq_true, cx0_fx]
          refine call_is (ok30 N k arcs flow hP.1 (by omega) hf) ?_ rfl ?_
          · simp [net, li, lb, lendsOk, lendOk, lends, lend, wkL, wk, wkB, pos]
          simp -implicitDefEqProofs only [qe, qy, qA, qE, qF, qJ, qO, qP, qR, qZ, zJ, zL, zM, zP, ofConst, List.length_nil, List.length_cons, List.getElem?_cons_zero, ↓reduceIte, Nat.reduceEqDiff, zR, zT, ↓zV, List.append_nil, Nat.zero_add, zZ, leE, leH, leB, leV, leVs, keepP, liveP, wfE, wfB, wfV, wfL, Bool.and_true, Bool.and_self, true_and, and_true, and_self, V.v.injEq, Value.int.injEq, Value.bool.injEq, jo, ↓qaJ, ↓qaQ, bne_self_eq_false]
          exact ⟨by simp only [lo, hi]; omega, k + 1, ⟨by omega, by omega⟩, by simp⟩
        refine call_is sanOk ?_ rfl ?_
        · simp [net, li, lb, lendsOk, lendOk, lends, lend, wkL, wk, wkB, pos]
        simp -implicitDefEqProofs only [qa, qw, rdK, qz, qA, qB, qD, qR, qV, zD, zJ, zL, zP, List.length_nil, List.length_cons, zQ, List.getD_eq_getElem?_getD, List.getElem?_cons_zero, ↓reduceIte, Nat.reduceEqDiff, Option.getD_some, ↓zU, zW, Nat.zero_add, Nat.reduceAdd, List.map_cons, List.map_nil, List.drop_zero, List.take_nil, Bool.and_true, true_and, and_true, Nat.le_refl, ke, ki, ↓jr, ↓ju, ↓jz, cx0_fx]
        have e1 := ok32 N arcs flow hV hP.1 hP.2
        have e2 := ok33 N arcs flow hV hP.1 hP.2
        have e3 := ok31 N (restA arcs flow arcs.length)
        generalize arcs.length = L at e1 e2 e3
        cases L with
        | zero =>
          refine call_isA [net N arcs, li flow] _ (.agg [.i N, .nil]) _ [] e1 ?_ rfl rfl ?_
          · simp [net, li, lb, lendsOk, lendOk, lends, lend, wkL, wk, wkB, pos]
          simp -implicitDefEqProofs only [qz, qD, zD, zJ, zL, zP, ↓reduceIte, Nat.reduceEqDiff, ↓zU, zW, List.append_nil, List.map_cons, List.map_nil, Bool.and_true, and_true, Bool.false_eq_true, cx0_fx]
          refine call_isA [net N arcs, li flow] _ (.agg [.i N, .nil]) _ [] e2 ?_ rfl rfl ?_
          · simp [net, li, lb, lendsOk, lendOk, lends, lend, wkL, wk, wkB, pos]
          simp -implicitDefEqProofs only [qz, qD, zD, zJ, zL, zP, ↓reduceIte, Nat.reduceEqDiff, ↓zU, zW, List.append_nil, List.map_cons, List.map_nil, Bool.and_true, and_true, Bool.false_eq_true, cx0_fx]
          refine call_is e3 ?_ rfl ?_
          · simp [net, lendsOk, lendOk, lends, lend, wkL, wk, wkB, pos, restA]
          simp -implicitDefEqProofs only [qa, qb, qy, qA, qN, qR, qS, zJ, zL, zP, ↓reduceIte, Nat.reduceEqDiff, zT, ↓zU, List.nil_append, zY, resP, tupV, List.reverse_cons, List.reverse_nil, wfV, Bool.and_self, and_self]
        | succ m =>
          refine call_isA [net N arcs, li flow] _ (.agg [.i N, .sl 6 0 (2 * (m + 1))]) _ [.dead, .dead, .dead, .dead, .dead, .arr 4 (restTo arcs flow (m + 1))] e1 ?_ rfl rfl ?_
          · simp [net, li, lb, lendsOk, lendOk, lends, lend, wkL, wk, wkB, pos]
          simp -implicitDefEqProofs only [qz, qD, zD, zJ, zL, zP, ↓reduceIte, Nat.reduceEqDiff, ↓zU, zW, List.nil_append, List.cons_append, List.map_cons, List.map_nil, Bool.and_true, and_true, Bool.false_eq_true, cx0_fx]
          refine call_isA [net N arcs, li flow] _ (.agg [.i N, .sl 12 0 (2 * (m + 1))]) _ [.dead, .dead, .dead, .dead, .dead, .arr 4 (restTo arcs flow (m + 1))] e2 ?_ rfl rfl ?_
          · simp [net, li, lb, lendsOk, lendOk, lends, lend, wkL, wk, wkB, pos]
          simp -implicitDefEqProofs only [qz, qD, zD, zJ, zL, zP, ↓reduceIte, Nat.reduceEqDiff, ↓zU, zW, List.nil_append, List.cons_append, List.map_cons, List.map_nil, Bool.and_true, and_true, Bool.false_eq_true, cx0_fx]
          refine call_is e3 ?_ rfl ?_
          · simp [net, lendsOk, lendOk, lends, lend, wkL, wk, wkB, blk, restTo_len, ← restA_enc]
            exact restTo_take arcs flow (m + 1)
          simp -implicitDefEqProofs only [qa, qb, qy, qA, qN, qR, qS, zJ, zL, zP, ↓reduceIte, Nat.reduceEqDiff, zT, ↓zU, List.nil_append, zY, resP, tupV, List.reverse_cons, List.reverse_nil, wfV, Bool.and_self, and_self]
end Go.Fx.F
namespace Go.Fx.F
open Go Go.Fx Go.Proofs
theorem Fn_post {P : Program} {f : FuncId} {xs : List V} {h0 : List Blk} {mv : List Nat} {R R' : V → List Blk → Prop} (h : Fn P f xs h0 mv R) (hR : ∀ r h', R r h' → R' r h') : Fn P f xs h0 mv R' := by
  intro ρ X w vals h1 h2
  refine Calls.mono (h ρ X w vals h1 h2) ?_
  rintro e w' ⟨val, r, h', ρ', q1, q2, q3, q4, q5, q6⟩
  exact ⟨val, r, h', ρ', q1, ⟨hR r h' q2.1, q2.2⟩, q3, q4, q5, q6⟩
theorem ex_map {α β : Type} {g : α → β} : ∀ {els : List β}, (∀ x ∈ els, ∃ a, x = g a) → ∃ l : List α, els = l.map g
  | [], _ => ⟨[], rfl⟩
  | x :: r, h => by
    obtain ⟨a, rfl⟩ := h x List.mem_cons_self
    obtain ⟨l, rfl⟩ := ex_map (els := r) fun y hy => h y (List.mem_cons_of_mem _ hy)
    exact ⟨a :: l, rfl⟩
theorem wf_arc {x : List V} (h : WfT (.st [.int .i64, .int .i64, .int .i64, .int .i64]) x) : ∃ a : Arc, x = a.enc := by
  simp only [WfT, WfTs] at h
  obtain ⟨_, _, rfl, ⟨a, rfl, _⟩, _, _, rfl, ⟨b, rfl, _⟩, _, _, rfl, ⟨c, rfl, _⟩, _, _, rfl, ⟨d, rfl, _⟩, rfl⟩ := h
  exact ⟨⟨a, b, c, d⟩, rfl⟩
theorem wf_net {x : V} (h : WfV (.st [.int .i64, .sl 4 (.st [.int .i64, .int .i64, .int .i64, .int .i64])]) x) : ∃ n arcs, x = rnet n arcs := by
  obtain ⟨cs, h, rfl⟩ := h
  rw [WfTs.eq_2] at h
  obtain ⟨a, b, rfl, h1, h2⟩ := h
  rw [WfTs.eq_2] at h2
  obtain ⟨c, d, rfl, h3, h4⟩ := h2
  rw [WfTs.eq_1] at h4
  subst h4
  simp only [WfT] at h1
  obtain ⟨n, rfl, _⟩ := h1
  rw [WfT] at h3
  obtain ⟨els, rfl, _, he⟩ := h3
  obtain ⟨arcs, rfl⟩ := ex_map (fun x hx => wf_arc (he x hx))
  exact ⟨n, arcs, rfl⟩
theorem wf_int {x : V} (h : WfV (.int .i64) x) : ∃ n, x = .i n := by
  simp only [WfV, WfT] at h
  obtain ⟨n, h, _⟩ := h
  exact ⟨n, by simpa using h⟩
theorem wf_li {x : V} (h : WfV (.sl 1 (.int .i64)) x) : ∃ l, x = rli l := by
  simp only [WfV] at h
  rw [WfT] at h
  obtain ⟨els, h1, _, he⟩ := h
  obtain ⟨l, rfl⟩ := ex_map (g := encI) (fun x hx => by
    have := he x hx
    simp only [WfT] at this
    obtain ⟨n, rfl, _⟩ := this
    exact ⟨n, rfl⟩)
  exact ⟨l, by simpa [rli, rlb] using h1⟩
theorem wf_lb {x : V} (h : WfV (.sl 1 .bool) x) : ∃ l, x = rlb l := by
  simp only [WfV] at h
  rw [WfT] at h
  obtain ⟨els, h1, _, he⟩ := h
  obtain ⟨l, rfl⟩ := ex_map (g := encB) (fun x hx => by
    have := he x hx
    simp only [WfT] at this
    obtain ⟨n, rfl⟩ := this
    exact ⟨n, rfl⟩)
  exact ⟨l, by simpa [rli, rlb] using h1⟩
theorem fn8 : ∀ xs, WfA [.st [.int .i64, .sl 4 (.st [.int .i64, .int .i64, .int .i64, .int .i64])], .int .i64, .int .i64, .sl 1 (.int .i64), .sl 1 .bool] xs → Fn Try.prog 8 xs [] [] (fun r _ => r = .b true) := by
  intro xs h
  obtain ⟨x1, _, rfl, h1, h⟩ := h
  obtain ⟨x2, _, rfl, h2, h⟩ := h
  obtain ⟨x3, _, rfl, h3, h⟩ := h
  obtain ⟨x4, _, rfl, h4, h⟩ := h
  obtain ⟨x5, _, rfl, h5, h⟩ := h
  obtain rfl : _ = [] := h
  obtain ⟨n, arcs, rfl⟩ := wf_net h1
  obtain ⟨f, rfl⟩ := wf_int h2
  obtain ⟨t, rfl⟩ := wf_int h3
  obtain ⟨flow, rfl⟩ := wf_li h4
  obtain ⟨cut, rfl⟩ := wf_lb h5
  exact Fn_post (ok8 n arcs f t flow cut).2 fun r h' h => h.1
end Go.Fx.F
namespace Go.Fx
open Go.RowKit
theorem rep_none {ρ : Nat → Loc} {X : Nat → Prop} {w : World} {h : List Blk} (hr : Rep ρ X w h) : Rep (gvLoc ρ fun _ => true) X w [] :=
  ⟨fun j k _ h1 => by simp [gvLoc] at h1, fun k _ => by simp [gvLoc], fun k b hb => by simp at hb, fun b ho => hr.disj b (gv_own ho), fun k h1 => by simp [gvLoc] at h1, hr.xlt⟩
/-- What a function hands back anew is given up: from now on it is data. -/
theorem Fn_give {P : Program} {f : FuncId} {args : List V} {mv : List Nat} {R : V → List Blk → Prop} {y : V} (h : Fn P f args [] mv R) (hy : ∀ r hs, R r hs → wk y (gvV (fun _ => true) hs r)) : Fn P f args [] mv (Is y) := by
  intro ρ X w vals h1 h2
  refine Calls.mono (h ρ X w vals h1 h2) ?_
  rintro e w' ⟨val, r, h', ρ', q1, q2, q3, q4, q5, q6⟩
  exact ⟨val, y, [], _, q1, ⟨⟨rfl, rfl⟩, Nat.le_refl _⟩, q3.trans gv_fr, rep_none q4, wk_rep _ _ _ (hy r h' q2.1) (gv_rep q4 _ _ q5), fun k hk => by simp at hk⟩
/-- What a function hands back anew, said in other words. -/
theorem Fn_ghost {P : Program} {f : FuncId} {args : List V} {mv : List Nat} {R R' : V → List Blk → Prop} (h : Fn P f args [] mv R) (hR : ∀ r hs, R r hs → ∃ r' hs', R' r' hs' ∧ leG [] ⟨[(0, r)], hs, 0⟩ ⟨[(0, r')], hs', 0⟩) : Fn P f args [] mv R' := by
  intro ρ X w vals h1 h2
  refine Calls.mono (h ρ X w vals h1 h2) ?_
  rintro e w' ⟨val, r, h', ρ', q1, q2, q3, q4, q5, q6⟩
  obtain ⟨r', hs', g1, g2⟩ := hR r h' q2.1
  have hg : Good ρ X w [] 1 ⟨[(0, r)], h', 0⟩ ⟨#[val], []⟩ w' := by
    refine ⟨ρ', ⟨⟨q3, fun k hk => by simp at hk⟩, trivial⟩, ⟨q4, fun i => ?_⟩, rfl, rfl⟩
    by_cases hi : i = 0
    · subst hi; exact q5
    · have : get [(0, r)] i = .any := by simp [get, hi]
      rw [this]; trivial
  obtain ⟨ρ2, ⟨⟨p1, _⟩, _⟩, ⟨p2, p3⟩, _⟩ := hg.leG g2
  exact ⟨val, r', hs', ρ2, q1, ⟨g1, Nat.zero_le _⟩, p1, p2, p3 0, fun k hk => by simp at hk⟩
end Go.Fx
namespace Go.Fx.F
open Go Go.Fx Go.Proofs
set_option maxRecDepth 20000
theorem ok_give {f : FuncId} {xs : List V} {x y : V} {hs : List Blk} (h : Ok f xs (IsA x hs)) (hy : wk y (gvV (fun _ => true) hs x)) : Ok f xs (Is y) :=
  ⟨h.1, Fn_give h.2 (by rintro r h' ⟨rfl, rfl⟩; exact hy)⟩
theorem run_nil {N : Nat} {f t : Int} {r : List Int} (hft : f ≠ t) (hf : 0 ≤ f ∧ f < N) (ht : 0 ≤ t ∧ t < N) (h : Run [] N f t [] r) : r = [] := by
  have : round [] N f t [] = none := by
    unfold round
    rw [if_pos]
    show (srch [] N f).1.getD t.toNat 0 = -2
    rw [show srch [] N f = _ from bfs_none N]
    have h0 : f.toNat < (List.replicate N (-2 : Int)).length := by simp; omega
    rw [getD_set h0, if_neg (by omega)]
    rw [List.getD_eq_getElem?_getD, List.getElem?_replicate, if_pos (by omega)]
    rfl
  exact h.det (.stop this)
/-- Both programs' greatest flow, zas data. -/
theorem ok36d (N : Nat) (arcs : List Arc) (f t : Int) (r : List Int) (hV : Val N arcs) (hf : 0 ≤ f ∧ f < N) (ht : 0 ≤ t ∧ t < N) (hft : f ≠ t) (hr : Run arcs N f t (List.replicate arcs.length 0) r) (hl : r.length = arcs.length) :
    Ok 36 [net N arcs, .i f, .i t] (Is (.tup [rli r, rlb (cutOf arcs N f r)])) := by
  cases arcs with
  | nil =>
    have := run_nil hft hf ht hr
    subst this
    refine ok_give (ok36z N f t hV hf ht hft) ?_
    have e1 : List.take N ((cutOf [] N f []).map encB) = (cutOf [] N f []).map encB := List.take_of_length_le (by simp [cutOf, cutK_len])
    simp [gvV, gvL, blk, wk, wkL, wkR, rli, rlb, e1]
    simp [cutOf, cutK_len, wk, wkR]
  | cons a l =>
    refine ok_give (ok36 N l.length (a :: l) f t r rfl hV hf ht hft hr) ?_
    have e1 : List.take N ((cutOf (a :: l) N f r).map encB) = (cutOf (a :: l) N f r).map encB := List.take_of_length_le (by simp [cutOf, cutK_len])
    have e2 : List.take (a :: l).length (r.map encI) = r.map encI := List.take_of_length_le (by simp [hl])
    simp only [gvV, gvL, blk, List.getD_eq_getElem?_getD, lg0, lg1, lg2, lg3, lg4, lg5, lg6, lg7, lg8, lg9, kW, wb, wh, wq, wx, wC, wH, List.getElem?_cons_zero, Option.getD_some, if_true, List.drop_zero, e1, e2, Nat.zero_add]
    simp [wk, wkL, wkR, rli, rlb, hl, cutOf, cutK_len]

theorem take_enc {l : List Int} {n : Nat} (h : l.length = n) : List.take n (l.map encI) = l.map encI := List.take_of_length_le (by simp [h])
theorem take_encB {l : List Bool} {n : Nat} (h : l.length = n) : List.take n (l.map encB) = l.map encB := List.take_of_length_le (by simp [h])
theorem cutOf_len {arcs : List Arc} {N : Nat} {f : Int} {fl : List Int} : (cutOf arcs N f fl).length = N := cutK_len
theorem ok12d (N : Nat) (arcs : List Arc) (f t : Int) (r : List Int) (hV : Val N arcs) (he : endsB N f t = true) (hr : Run arcs N f t (List.replicate arcs.length 0) r) (hl : r.length = arcs.length) :
    Ok 12 [net N arcs, .i f, .i t] (Is (.agg [rli r, rlb (cutOf arcs N f r), .i 0])) := by
  have hE : (0 ≤ f ∧ f < N) ∧ (0 ≤ t ∧ t < N) ∧ f ≠ t := by simpa [endsB] using he
  cases arcs with
  | nil =>
    have := run_nil hE.2.2 hE.1 hE.2.1 hr
    subst this
    refine ok_give (ok12z N f t hV he) ?_
    have e1 : List.take N ((cutOf [] N f []).map encB) = (cutOf [] N f []).map encB := take_encB cutOf_len
    simp [gvV, gvL, blk, wk, wkL, wkR, rli, rlb, e1, cutOf_len]
  | cons a l =>
    refine ok_give (ok12 N l.length (a :: l) f t r rfl hV he hr) ?_
    have e1 : List.take N ((cutOf (a :: l) N f r).map encB) = (cutOf (a :: l) N f r).map encB := take_encB cutOf_len
    have e2 : List.take (a :: l).length (r.map encI) = r.map encI := take_enc hl
    simp only [gvV, gvL, blk, List.getD_eq_getElem?_getD, lg0, lg1, lg2, lg3, lg4, lg5, lg6, lg7, lg8, lg9, kW, wb, wh, wq, wx, wC, wH, List.getElem?_cons_zero, Option.getD_some, if_true, List.drop_zero, e1, e2, Nat.zero_add]
    simp [wk, wkL, wkR, rli, rlb, hl, cutOf_len]
theorem ok12e (n : Int) (arcs : List Arc) (f t : Int) (he : endsB n f t = false) : Ok 12 [net n arcs, .i f, .i t] (Is (.agg [rli [], rlb [], .i 1])) :=
  ok_give (ok12n n arcs f t he) (by simp [gvV, gvL, wk, wkL, wkR, rli, rlb])
theorem ok11e (n : Int) (arcs : List Arc) (f t : Int) (he : endsB n f t = false) : Ok 11 [net n arcs, .i f, .i t] (Is (.tup [rli [], rlb [], .i 1])) := by
  refine ok_give (x := .tup [.nil, .nil, .i 1]) (hs := []) ?_ (by simp [gvV, gvL, wk, wkL, wkR, rli, rlb])
  refine ok_of lw11 (by simp) ?_
  unfold c11
  simp -implicitDefEqProofs only [qF, qI, qO, qP, qR, qT, qV, zD, zJ, zL, zM, zP, ofConst, cells?, List.length_nil, List.length_cons, List.set_cons_zero, zQ, List.getD_eq_getElem?_getD, List.getElem?_cons_zero, ↓reduceIte, Nat.reduceEqDiff, Option.getD_some, List.nil_append, List.append_nil, Nat.zero_add, Nat.reduceAdd, Nat.add_zero, reduceCtorEq, freshP, List.map_cons, List.map_nil, List.drop_zero, List.take_nil, true_and, Nat.le_refl, ke, kf, ki, jo, ↓jp, ↓jr, ↓ju, ↓jz, args0, net]
  refine call_is (ok35 n arcs f t) ?_ rfl ?_
  · simp [net, lendsOk, lendOk, lends, lend, wkL, wk, wkB, pos]
  simp -implicitDefEqProofs only [qF, qI, qJ, qN, qO, qP, qR, zd, zJ, zL, zM, zP, ofConst, List.length_nil, List.length_cons, ↓reduceIte, Nat.reduceEqDiff, zS, zT, Bool.not_false, ↓zU, List.nil_append, List.cons_append, List.append_nil, Nat.zero_add, resP, tupV, List.reverse_cons, List.reverse_nil, leH, keepP, wfB, wfV, wfL, Bool.and_self, and_self, Nat.le_refl, jo, he, retP_isA]
theorem ok11d (N : Nat) (arcs : List Arc) (f t : Int) (r : List Int) (hV : Val N arcs) (he : endsB N f t = true) (hr : Run arcs N f t (List.replicate arcs.length 0) r) (hl : r.length = arcs.length) :
    Ok 11 [net N arcs, .i f, .i t] (Is (.tup [rli r, rlb (cutOf arcs N f r), .i 0])) := by
  have hE : (0 ≤ f ∧ f < N) ∧ (0 ≤ t ∧ t < N) ∧ f ≠ t := by simpa [endsB] using he
  refine ok_of lw11 (by simp) ?_
  unfold c11
  simp -implicitDefEqProofs only [qF, qI, qO, qP, qR, qT, qV, zD, zJ, zL, zM, zP, ofConst, cells?, List.length_nil, List.length_cons, List.set_cons_zero, zQ, List.getD_eq_getElem?_getD, List.getElem?_cons_zero, ↓reduceIte, Nat.reduceEqDiff, Option.getD_some, List.nil_append, List.append_nil, Nat.zero_add, Nat.reduceAdd, Nat.add_zero, reduceCtorEq, freshP, List.map_cons, List.map_nil, List.drop_zero, List.take_nil, true_and, Nat.le_refl, ke, kf, ki, jo, ↓jp, ↓jr, ↓ju, ↓jz, args0, net]
  refine call_is (ok35 N arcs f t) ?_ rfl ?_
  · simp [net, lendsOk, lendOk, lends, lend, wkL, wk, wkB, pos]
  simp -implicitDefEqProofs only [qE, qF, qI, qJ, qO, qP, qR, qV, zd, zD, zJ, zL, zP, List.length_nil, List.length_cons, zQ, List.getD_eq_getElem?_getD, List.getElem?_cons_zero, ↓reduceIte, Nat.reduceEqDiff, Option.getD_some, zS, zT, Bool.not_true, ↓zV, List.append_nil, Nat.zero_add, Nat.reduceAdd, reduceCtorEq, List.map_cons, List.map_nil, List.drop_zero, List.take_nil, true_and, Nat.le_refl, ke, ki, jo, ↓jr, ↓ju, ↓jz, he]
  refine call_is (ok36d N arcs f t r hV hE.1 hE.2.1 hE.2.2 hr hl) ?_ rfl ?_
  · simp [net, lendsOk, lendOk, lends, lend, wkL, wk, wkB, pos]
  simp -implicitDefEqProofs only [qF, qI, qN, qO, qP, qR, zE, zJ, zL, zM, zP, ofConst, List.length_nil, List.length_cons, List.getElem?_cons_zero, ↓reduceIte, Nat.reduceEqDiff, List.nil_append, List.cons_append, List.append_nil, Nat.zero_add, zY, resP, tupV, List.reverse_cons, List.reverse_nil, wfV, wfL, Bool.and_self, and_self, lg0, jo, ↓jp, ↓jR, rli, rlb]
/-- What the rounds keep. -/
theorem Run.keep {N : Nat} {arcs : List Arc} (hV : Val N arcs) {f t : Int} (hf : 0 ≤ f ∧ f < N) (ht : 0 ≤ t ∧ t < N) {fl r : List Int} (h : Run arcs N f t fl r) :
    fl.length = arcs.length → possP arcs fl → r.length = arcs.length ∧ possP arcs r ∧ round arcs N f t r = none ∧ ∃ d, 0 ≤ d ∧ ∀ x, valTo arcs x r arcs.length = valTo arcs x fl arcs.length + (if f = x then d else 0) - (if t = x then d else 0) := by
  induction h with
  | stop h => exact fun h1 h2 => ⟨h1, h2, h, 0, Int.le_refl _, fun x => by split <;> split <;> omega⟩
  | go h _ ih =>
    intro h1 h2
    obtain ⟨q1, q2, d, q3, q4⟩ := round_ok hV hf ht h1 h2 h
    obtain ⟨p1, p2, p3, d', p4, p5⟩ := ih q1 q2
    refine ⟨p1, p2, p3, d + d', by omega, fun x => ?_⟩
    rw [p5, q4]
    split <;> split <;> omega
theorem zero_val (arcs : List Arc) (x : Int) (n : Nat) : ∀ k, valTo arcs x (List.replicate n 0) k = 0
  | 0 => rfl
  | k + 1 => by
    have : (List.replicate n (0 : Int)).getD k 0 = 0 := by
      rw [List.getD_eq_getElem?_getD, List.getElem?_replicate]
      split <;> rfl
    simp only [valTo, zero_val arcs x n k, this]
    split <;> split <;> rfl
theorem zero_poss {N : Nat} {arcs : List Arc} (hV : Val N arcs) : possP arcs (List.replicate arcs.length 0) := fun i h1 h2 => by
  have := (hV.ha arcs[i] (List.getElem_mem h2)).2
  simp; omega
/-- The greatest flow that the rounds end with. -/
structure Grt (N : Nat) (arcs : List Arc) (f t : Int) (r : List Int) : Prop where
  run : Run arcs N f t (List.replicate arcs.length 0) r
  len : r.length = arcs.length
  pos : possP arcs r
  stop : round arcs N f t r = none
  val : ∃ d, 0 ≤ d ∧ ∀ x, valTo arcs x r arcs.length = (if f = x then d else 0) - (if t = x then d else 0)
theorem grt {N : Nat} {arcs : List Arc} (hV : Val N arcs) {f t : Int} (hE : (0 ≤ f ∧ f < N) ∧ (0 ≤ t ∧ t < N) ∧ f ≠ t) : ∃ r, Grt N arcs f t r := by
  obtain ⟨r, hr⟩ := run_ends hV hE.1 hE.2.1 hE.2.2 (((arcs.length : Int) * 1073741824 - valTo arcs f (List.replicate arcs.length 0) arcs.length).toNat) (List.replicate arcs.length 0) (by simp) (zero_poss hV) (by omega)
  obtain ⟨h1, h2, h3, d, h4, h5⟩ := hr.keep hV hE.1 hE.2.1 (by simp) (zero_poss hV)
  exact ⟨r, hr, h1, h2, h3, d, h4, fun x => by rw [h5, zero_val]; omega⟩
theorem ok3 (n : Int) (arcs : List Arc) (f t : Int) : Ok 3 [rnet n arcs, .i f, .i t] (Is (.b true)) := by
  refine ok_of lw3 (by simp) ?_
  unfold c3
  simp -implicitDefEqProofs only [qF, qI, qO, qP, qR, qT, qV, zD, zJ, zL, zM, zP, ofConst, cells?, List.length_nil, List.length_cons, List.set_cons_zero, zQ, List.getD_eq_getElem?_getD, List.getElem?_cons_zero, ↓reduceIte, Nat.reduceEqDiff, Option.getD_some, List.nil_append, List.append_nil, Nat.zero_add, Nat.reduceAdd, Nat.add_zero, freshP, List.map_cons, List.map_nil, List.drop_zero, List.take_nil, true_and, Nat.le_refl, ke, kf, ki, jo, ↓jp, ↓jr, ↓ju, ↓jz, args0, rnet]
  refine call_is (ok9 n arcs 12 40) ?_ rfl ?_
  · simp [net, lendsOk, lendOk, lends, lend, wkL, wk, wkB, pos]
  cases hF : (decide (n ≤ 12 ∧ (arcs.length : Int) ≤ 40) && validB n arcs) with
  | false =>
    simp -implicitDefEqProofs only [qF, qI, qJ, qO, qP, zd, zD, zJ, zL, zP, List.length_nil, List.length_cons, ↓reduceIte, zS, zT, Bool.not_false, ↓zU, List.append_nil, Nat.zero_add, List.map_nil, jo]
    refine call_is sanOk ?_ rfl ?_
    · simp [lendsOk, lendOk, lends, lend, wkL, wk, wkB, pos]
    simp -implicitDefEqProofs only [qN, qO, qP, qR, zJ, zL, zP, ↓reduceIte, List.nil_append, zY, resP, tupV, List.reverse_cons, List.reverse_nil, wfV, Bool.and_self, and_self]
  | true =>
    simp only [Bool.and_eq_true, decide_eq_true_eq] at hF
    obtain ⟨N, rfl, hV⟩ := valOf hF.2
    simp -implicitDefEqProofs only [qE, qF, qI, qJ, qO, qP, qR, qV, zd, zD, zJ, zL, zP, List.length_nil, List.length_cons, zQ, List.getD_eq_getElem?_getD, List.getElem?_cons_zero, ↓reduceIte, Nat.reduceEqDiff, Option.getD_some, zS, zT, Bool.not_true, ↓zV, List.append_nil, Nat.zero_add, Nat.reduceAdd, reduceCtorEq, List.map_cons, List.map_nil, List.drop_zero, List.take_nil, true_and, Nat.le_refl, ke, ki, jo, ↓jr, ↓ju, ↓jz]
    cases he : endsB N f t with
    | false =>
      refine call_is (ok11e N arcs f t he) ?_ rfl ?_
      · simp [net, lendsOk, lendOk, lends, lend, wkL, wk, wkB, pos]
      simp -implicitDefEqProofs only [qF, qI, qO, qP, qR, qV, zD, zE, zJ, zL, zP, List.length_nil, List.length_cons, zQ, List.getD_eq_getElem?_getD, List.getElem?_cons_zero, ↓reduceIte, Nat.reduceEqDiff, Option.getD_some, List.nil_append, List.cons_append, Nat.zero_add, Nat.reduceAdd, reduceCtorEq, List.map_cons, List.map_nil, List.drop_zero, List.take_nil, true_and, Nat.le_refl, lg0, ke, kf, lg1, ki, jo, ↓jp, ↓jr, ↓ju, ↓jz, ↓jR]
      refine call_is (ok12e N arcs f t he) ?_ rfl ?_
      · simp [net, lendsOk, lendOk, lends, lend, wkL, wk, wkB, pos]
      simp -implicitDefEqProofs only [qF, qI, qO, qP, qU, qW, zD, zJ, zK, zL, zP, ofConst, cells?, List.length_nil, List.length_cons, List.set_cons_zero, splice, zQ, List.getD_eq_getElem?_getD, List.getElem?_cons_zero, ↓reduceIte, Nat.reduceEqDiff, Option.getD_some, List.nil_append, List.cons_append, List.append_nil, Nat.zero_add, Nat.reduceAdd, Nat.add_zero, freshP, List.map_cons, List.map_nil, List.take_zero, List.drop_nil, List.all_cons, List.all_nil, isC, Bool.and_true, Bool.and_self, true_and, and_true, and_self, List.not_mem_nil, not_false_eq_true, Nat.le_refl, lg0, ka, kc, kh, kn, jo, ↓jp, ↓jA, ↓jB, cx0_bn, rli, rlb]
      refine call_is sanOk ?_ rfl ?_
      · simp [lendsOk, lendOk, lends, lend, wkL, wk, wkB, pos]
      simp -implicitDefEqProofs only [qP, qQ, qR, qS, qV, qX, qZ, zD, zJ, zL, zP, zQ, List.getD_eq_getElem?_getD, List.getElem?_cons_zero, ↓reduceIte, Nat.reduceEqDiff, Option.getD_some, zR, zT, ↓zU, zW, Nat.zero_add, Nat.add_zero, List.map_cons, List.map_nil, true_and, lg0, lg1, ↓jp, ↓jr, ↓ju, ↓jy, ↓jE, ↓qaP, beq_self_eq_true]
      refine call_is (ok13 [] []) ?_ rfl ?_
      · simp [li, lendsOk, lendOk, lends, lend, wkL, wk, wkB, pos]
      simp -implicitDefEqProofs only [qP, qQ, qR, qS, qV, qX, zD, zJ, zL, zP, zQ, List.getD_eq_getElem?_getD, List.getElem?_cons_zero, ↓reduceIte, Nat.reduceEqDiff, Option.getD_some, zT, ↓zU, zW, Nat.zero_add, List.map_cons, List.map_nil, lg0, ↓jp, ↓jr, ↓ju, ↓jy, ↓jE, decide_true]
      refine call_is (ok14 [] []) ?_ rfl ?_
      · simp [lb, lendsOk, lendOk, lends, lend, wkL, wk, wkB, pos]
      simp -implicitDefEqProofs only [qN, qO, qP, qR, qS, zJ, zL, zP, ↓reduceIte, Nat.reduceEqDiff, zT, ↓zU, List.nil_append, zY, resP, tupV, List.reverse_cons, List.reverse_nil, wfV, Bool.and_self, and_self, decide_true]
    | true =>
      have hE : (0 ≤ f ∧ f < N) ∧ (0 ≤ t ∧ t < N) ∧ f ≠ t := by simpa [endsB] using he
      obtain ⟨r, hr⟩ := grt hV hE
      refine call_is (ok11d N arcs f t r hV he hr.run hr.len) ?_ rfl ?_
      · simp [net, lendsOk, lendOk, lends, lend, wkL, wk, wkB, pos]
      simp -implicitDefEqProofs only [qF, qI, qO, qP, qR, qV, zD, zE, zJ, zL, zP, List.length_nil, List.length_cons, zQ, List.getD_eq_getElem?_getD, List.getElem?_cons_zero, ↓reduceIte, Nat.reduceEqDiff, Option.getD_some, List.nil_append, List.cons_append, Nat.zero_add, Nat.reduceAdd, reduceCtorEq, List.map_cons, List.map_nil, List.drop_zero, List.take_nil, true_and, Nat.le_refl, lg0, ke, kf, lg1, ki, jo, ↓jp, ↓jr, ↓ju, ↓jz, ↓jR]
      refine call_is (ok12d N arcs f t r hV he hr.run hr.len) ?_ rfl ?_
      · simp [net, lendsOk, lendOk, lends, lend, wkL, wk, wkB, pos]
      simp -implicitDefEqProofs only [qF, qI, qO, qP, qU, qW, zD, zJ, zK, zL, zP, ofConst, cells?, List.length_nil, List.length_cons, List.set_cons_zero, splice, zQ, List.getD_eq_getElem?_getD, List.getElem?_cons_zero, ↓reduceIte, Nat.reduceEqDiff, Option.getD_some, List.nil_append, List.cons_append, List.append_nil, Nat.zero_add, Nat.reduceAdd, Nat.add_zero, freshP, List.map_cons, List.map_nil, List.take_zero, List.drop_nil, List.all_cons, List.all_nil, isC, Bool.and_true, Bool.and_self, true_and, and_true, and_self, List.not_mem_nil, not_false_eq_true, Nat.le_refl, lg0, ka, kc, kh, kn, jo, ↓jp, ↓jA, ↓jB, cx0_bn, rli, rlb]
      refine call_is sanOk ?_ rfl ?_
      · simp [lendsOk, lendOk, lends, lend, wkL, wk, wkB, pos]
      simp -implicitDefEqProofs only [qP, qQ, qR, qS, qV, qX, qZ, zD, zJ, zL, zP, zQ, List.getD_eq_getElem?_getD, List.getElem?_cons_zero, ↓reduceIte, Nat.reduceEqDiff, Option.getD_some, zR, zT, ↓zU, zW, Nat.zero_add, Nat.add_zero, List.map_cons, List.map_nil, true_and, lg0, lg1, ↓jp, ↓jr, ↓ju, ↓jy, ↓jE, ↓qaP, beq_self_eq_true]
      refine call_is (ok13 r r) ?_ rfl ?_
      · simp [li, lendsOk, lendOk, lends, lend, wkL, wk, wkB, pos]
      simp -implicitDefEqProofs only [qP, qQ, qR, qS, qV, qX, zD, zJ, zL, zP, zQ, List.getD_eq_getElem?_getD, List.getElem?_cons_zero, ↓reduceIte, Nat.reduceEqDiff, Option.getD_some, zT, ↓zU, zW, Nat.zero_add, List.map_cons, List.map_nil, lg0, ↓jp, ↓jr, ↓ju, ↓jy, ↓jE, decide_true]
      refine call_is (ok14 (cutOf arcs N f r) (cutOf arcs N f r)) ?_ rfl ?_
      · simp [lb, lendsOk, lendOk, lends, lend, wkL, wk, wkB, pos]
      simp -implicitDefEqProofs only [qN, qO, qP, qR, qS, zJ, zL, zP, ↓reduceIte, Nat.reduceEqDiff, zT, ↓zU, List.nil_append, zY, resP, tupV, List.reverse_cons, List.reverse_nil, wfV, Bool.and_self, and_self, decide_true]
theorem fn3 : ∀ xs, WfA [.st [.int .i64, .sl 4 (.st [.int .i64, .int .i64, .int .i64, .int .i64])], .int .i64, .int .i64] xs → Fn Try.prog 3 xs [] [] (fun r _ => r = .b true) := by
  intro xs h
  obtain ⟨x1, _, rfl, h1, h⟩ := h
  obtain ⟨x2, _, rfl, h2, h⟩ := h
  obtain ⟨x3, _, rfl, h3, h⟩ := h
  obtain rfl : _ = [] := h
  obtain ⟨n, arcs, rfl⟩ := wf_net h1
  obtain ⟨f, rfl⟩ := wf_int h2
  obtain ⟨t, rfl⟩ := wf_int h3
  exact Fn_post (ok3 n arcs f t).2 fun r h' h => h.1
end Go.Fx.F
namespace Go.Fx.F
open Go Go.Fx Go.Proofs
/-! The greatest flow and the least cut. -/
def arcIn (arcs : List Arc) (cut : List Bool) (fl : List Int) (k : Nat) : Int :=
  (if cut.getD (gA arcs k).from_.toNat false = true then fl.getD k 0 else 0) - (if cut.getD (gA arcs k).to.toNat false = true then fl.getD k 0 else 0)
def sumC (arcs : List Arc) (cut : List Bool) (fl : List Int) : Nat → Int
  | 0 => 0
  | k + 1 => sumC arcs cut fl k + arcIn arcs cut fl k
def sumN (arcs : List Arc) (cut : List Bool) (fl : List Int) (k : Nat) : Nat → Int
  | 0 => 0
  | v + 1 => sumN arcs cut fl k v + (if cut.getD v false = true then valTo arcs v fl k else 0)
theorem sumN_zero (arcs : List Arc) (cut : List Bool) (fl : List Int) : ∀ n, sumN arcs cut fl 0 n = 0
  | 0 => rfl
  | n + 1 => by simp [sumN, sumN_zero arcs cut fl n, valTo]
theorem sumN_step (arcs : List Arc) (cut : List Bool) (fl : List Int) (k : Nat) (h1 : 0 ≤ (gA arcs k).from_) (h2 : 0 ≤ (gA arcs k).to) : ∀ n, sumN arcs cut fl (k + 1) n = sumN arcs cut fl k n
    + (if (gA arcs k).from_ < n then (if cut.getD (gA arcs k).from_.toNat false = true then fl.getD k 0 else 0) else 0) - (if (gA arcs k).to < n then (if cut.getD (gA arcs k).to.toNat false = true then fl.getD k 0 else 0) else 0)
  | 0 => by
    simp only [sumN]
    rw [if_neg (by omega), if_neg (by omega)]; omega
  | n + 1 => by
    have ih := sumN_step arcs cut fl k h1 h2 n
    have hv : valTo arcs n fl (k + 1) = valTo arcs n fl k + (if (gA arcs k).from_ = n then fl.getD k 0 else 0) - (if (gA arcs k).to = n then fl.getD k 0 else 0) := rfl
    simp only [sumN, ih, hv]
    by_cases e1 : (gA arcs k).from_ = n
    · have t1 : (gA arcs k).from_.toNat = n := by omega
      rw [t1, if_neg (by omega), if_pos (show (gA arcs k).from_ < ((n + 1 : Nat) : Int) by omega), if_pos e1]
      by_cases e2 : (gA arcs k).to = n
      · have t2 : (gA arcs k).to.toNat = n := by omega
        rw [t2, if_neg (by omega), if_pos (show (gA arcs k).to < ((n + 1 : Nat) : Int) by omega), if_pos e2]
        split <;> omega
      · rw [if_neg e2]
        by_cases e3 : (gA arcs k).to < n
        · rw [if_pos e3, if_pos (show (gA arcs k).to < ((n + 1 : Nat) : Int) by omega)]
          by_cases e4 : cut.getD n false = true
          · rw [if_pos e4, if_pos e4, if_pos e4]; omega
          · rw [if_neg e4, if_neg e4, if_neg e4]; omega
        · rw [if_neg e3, if_neg (show ¬ (gA arcs k).to < ((n + 1 : Nat) : Int) by omega)]
          by_cases e4 : cut.getD n false = true
          · rw [if_pos e4, if_pos e4, if_pos e4]; omega
          · rw [if_neg e4, if_neg e4, if_neg e4]; omega
    · rw [if_neg e1]
      have c1 : (if (gA arcs k).from_ < ((n + 1 : Nat) : Int) then (if cut.getD (gA arcs k).from_.toNat false = true then fl.getD k 0 else 0) else 0) = (if (gA arcs k).from_ < (n : Int) then (if cut.getD (gA arcs k).from_.toNat false = true then fl.getD k 0 else 0) else 0) := by
        by_cases e3 : (gA arcs k).from_ < n
        · rw [if_pos e3, if_pos (by omega)]
        · rw [if_neg e3, if_neg (by omega)]
      rw [c1]
      by_cases e2 : (gA arcs k).to = n
      · have t2 : (gA arcs k).to.toNat = n := by omega
        rw [t2, if_neg (show ¬ (gA arcs k).to < (n : Int) by omega), if_pos (show (gA arcs k).to < ((n + 1 : Nat) : Int) by omega), if_pos e2]
        by_cases e4 : cut.getD n false = true
        · rw [if_pos e4, if_pos e4, if_pos e4]; omega
        · rw [if_neg e4, if_neg e4, if_neg e4]; omega
      · rw [if_neg e2]
        have c2 : (if (gA arcs k).to < ((n + 1 : Nat) : Int) then (if cut.getD (gA arcs k).to.toNat false = true then fl.getD k 0 else 0) else 0) = (if (gA arcs k).to < (n : Int) then (if cut.getD (gA arcs k).to.toNat false = true then fl.getD k 0 else 0) else 0) := by
          by_cases e3 : (gA arcs k).to < n
          · rw [if_pos e3, if_pos (by omega)]
          · rw [if_neg e3, if_neg (by omega)]
        rw [c2]
        by_cases e4 : cut.getD n false = true
        · rw [if_pos e4, if_pos e4]; omega
        · rw [if_neg e4, if_neg e4]; omega
theorem val_in {N : Nat} {arcs : List Arc} (hV : Val N arcs) {k : Nat} (hk : k < arcs.length) : (0 ≤ (gA arcs k).from_ ∧ (gA arcs k).from_ < N) ∧ (0 ≤ (gA arcs k).to ∧ (gA arcs k).to < N) := by
  rw [getD_nil (a := ⟨0,0,0,0⟩) hk]
  have := hV.ha arcs[k] (List.getElem_mem hk)
  exact ⟨this.1.1, this.1.2.1⟩
theorem sumN_all {N : Nat} {arcs : List Arc} (hV : Val N arcs) (cut : List Bool) (fl : List Int) : ∀ k, k ≤ arcs.length → sumN arcs cut fl k N = sumC arcs cut fl k
  | 0, _ => sumN_zero arcs cut fl N
  | k + 1, hk => by
    have := val_in hV (show k < arcs.length by omega)
    rw [sumN_step arcs cut fl k this.1.1 this.2.1, sumN_all hV cut fl k (by omega), if_pos this.1.2, if_pos this.2.2]
    simp only [sumC, arcIn]; omega
/-- What a set of nodes with the one end, and not the other, gives. -/
theorem sumN_flow (arcs : List Arc) (cut : List Bool) (fl : List Int) (k : Nat) {f t : Int} (hf : 0 ≤ f) (hcf : cut.getD f.toNat false = true) (hct : cut.getD t.toNat false = false) (N : Nat)
    (h0 : ∀ j : Int, 0 ≤ j → j < N → j ≠ f → j ≠ t → valTo arcs j fl k = 0) : ∀ n, n ≤ N → sumN arcs cut fl k n = if f < n then valTo arcs f fl k else 0
  | 0, _ => by rw [if_neg (by omega)]; rfl
  | n + 1, hn => by
    have ih := sumN_flow arcs cut fl k hf hcf hct N h0 n (by omega)
    simp only [sumN, ih]
    by_cases e1 : (n : Int) = f
    · have t1 : f.toNat = n := by omega
      rw [t1] at hcf
      rw [if_neg (by omega), if_pos hcf, if_pos (by omega), e1]; omega
    · have c1 : (if f < ((n + 1 : Nat) : Int) then valTo arcs f fl k else 0) = (if f < (n : Int) then valTo arcs f fl k else 0) := by
        by_cases e3 : f < n
        · rw [if_pos e3, if_pos (by omega)]
        · rw [if_neg e3, if_neg (by omega)]
      rw [c1]
      by_cases e2 : (n : Int) = t
      · have t1 : t.toNat = n := by omega
        rw [t1] at hct
        rw [if_neg (show ¬ cut.getD n false = true by rw [hct]; simp)]; omega
      · rw [h0 n (by omega) (by omega) e1 e2]
        split <;> omega
theorem sumC_le {arcs : List Arc} (cut : List Bool) {fl : List Int} (hp : ∀ q, q < arcs.length → 0 ≤ fl.getD q 0 ∧ fl.getD q 0 ≤ (gA arcs q).cap) : ∀ k, k ≤ arcs.length → sumC arcs cut fl k ≤ cutTo arcs cut k
  | 0, _ => Int.le_refl _
  | k + 1, hk => by
    have ih := sumC_le cut hp k (by omega)
    have := hp k (by omega)
    have hc : cutTo arcs cut (k + 1) = cutTo arcs cut k + (if cut.getD (gA arcs k).from_.toNat false = true ∧ cut.getD (gA arcs k).to.toNat false = false then (gA arcs k).cap else 0) := rfl
    rw [hc]
    simp only [sumC, arcIn]
    clear hc
    generalize cut.getD (gA arcs k).from_.toNat false = a
    generalize cut.getD (gA arcs k).to.toNat false = b
    generalize fl.getD k 0 = x at *
    cases a <;> cases b <;> simp <;> omega
theorem sumC_eq {arcs : List Arc} (cut : List Bool) {fl : List Int} (h1 : ∀ q, q < arcs.length → cut.getD (gA arcs q).from_.toNat false = true → cut.getD (gA arcs q).to.toNat false = false → fl.getD q 0 = (gA arcs q).cap)
    (h2 : ∀ q, q < arcs.length → cut.getD (gA arcs q).from_.toNat false = false → cut.getD (gA arcs q).to.toNat false = true → fl.getD q 0 = 0) : ∀ k, k ≤ arcs.length → sumC arcs cut fl k = cutTo arcs cut k
  | 0, _ => rfl
  | k + 1, hk => by
    have ih := sumC_eq cut h1 h2 k (by omega)
    have g1 := h1 k (by omega)
    have g2 := h2 k (by omega)
    have hc : cutTo arcs cut (k + 1) = cutTo arcs cut k + (if cut.getD (gA arcs k).from_.toNat false = true ∧ cut.getD (gA arcs k).to.toNat false = false then (gA arcs k).cap else 0) := rfl
    rw [hc]
    simp only [sumC, arcIn, ih]
    clear hc
    generalize cut.getD (gA arcs k).from_.toNat false = a at *
    generalize cut.getD (gA arcs k).to.toNat false = b at *
    generalize fl.getD k 0 = x at *
    cases a <;> cases b <;> simp at * <;> omega
/-- No flow has more than a cut. -/
theorem weak {N : Nat} {arcs : List Arc} (hV : Val N arcs) {f t : Int} (hf : 0 ≤ f ∧ f < N) {cut : List Bool} {fl : List Int} (hl : fl.length = arcs.length) (hp : possP arcs fl) (hcf : cut.getD f.toNat false = true) (hct : cut.getD t.toNat false = false)
    (h0 : ∀ j : Int, 0 ≤ j → j < N → j ≠ f → j ≠ t → valTo arcs j fl arcs.length = 0) : valTo arcs f fl arcs.length ≤ cutTo arcs cut arcs.length := by
  have e1 := sumN_flow arcs cut fl arcs.length hf.1 hcf hct N h0 N (Nat.le_refl _)
  rw [if_pos hf.2, sumN_all hV cut fl _ (Nat.le_refl _)] at e1
  rw [← e1]
  exact sumC_le cut ((poss_iff hl).1 hp) _ (Nat.le_refl _)
theorem scan_closed {R : List Arc} {N : Nat} {f k : Int} {s : List Int × List Int} (hf : 0 ≤ f ∧ f < N) (hR : ∀ i, i < R.length → (0 ≤ (gA R i).to ∧ (gA R i).to < N)) (h : Srch R N f s) (hk : k ∈ s.2) :
    ∀ i, i ≤ R.length → ∀ q, q < i → (gA R q).from_ = k → 0 < (gA R q).cap → (gA R q).to ∈ (scanTo R k s i).2
  | 0, _, q, hq, _, _ => by omega
  | i + 1, hi, q, hq, hfr, hc => by
    obtain ⟨h1, h2, h3⟩ := Srch.scan hf hR h hk i (by omega)
    have hto := hR q (by omega)
    unfold scanTo
    by_cases e : q = i
    · subst e
      split
      · exact List.mem_append_right _ (by simp)
      · rename_i hn
        have : (scanTo R k s q).1.getD (gA R q).to.toNat 0 ≠ -2 := fun h => hn ⟨hfr, hc, h⟩
        have := (h1.mem (gA R q).to.toNat (by omega)).1 this
        rwa [Int.toNat_of_nonneg hto.1] at this
    · have ih := scan_closed hf hR h hk i (by omega) q (by omega) hfr hc
      split
      · exact List.mem_append_left _ ih
      · exact ih
theorem bfs_pre {R : List Arc} {N : Nat} {f : Int} (hf : 0 ≤ f ∧ f < N) (hR : ∀ i, i < R.length → (0 ≤ (gA R i).to ∧ (gA R i).to < N)) {h : Nat} : ∀ j, h ≤ j → (bfsTo R N f h).2 <+: (bfsTo R N f j).2
  | 0, hj => by rw [show h = 0 by omega]; exact List.prefix_refl _
  | j + 1, hj => by
    by_cases e : h = j + 1
    · rw [e]; exact List.prefix_refl _
    · refine (bfs_pre hf hR j (by omega)).trans ?_
      conv => rhs; unfold bfsTo
      split
      · rename_i k hk
        exact (Srch.scan hf hR (Srch.bfs hf hR j) (List.mem_of_getElem? hk) R.length (Nat.le_refl _)).2.2
      · exact List.prefix_refl _
/-- What can be reached from what was found was found. -/
theorem srch_closed {R : List Arc} {N : Nat} {f : Int} (hf : 0 ≤ f ∧ f < N) (hR : ∀ i, i < R.length → (0 ≤ (gA R i).to ∧ (gA R i).to < N)) {q : Nat} (hq : q < R.length) (hm : (gA R q).from_ ∈ (srch R N f).2) (hc : 0 < (gA R q).cap) : (gA R q).to ∈ (srch R N f).2 := by
  have hS : Srch R N f (srch R N f) := Srch.bfs hf hR N
  have hN := nodup_le N hS.nod hS.rng
  obtain ⟨h, hh, he⟩ := List.getElem_of_mem hm
  have hlt : h < (bfsTo R N f h).2.length := by
    apply Classical.byContradiction
    intro hn
    have := bfs_stay (R := R) (N := N) (f := f) (h := h) (by omega) N (by omega)
    unfold srch at hh
    rw [this] at hh
    omega
  have hpre := bfs_pre hf hR (h := h) N (by omega)
  have hk : (bfsTo R N f h).2[h] = (gA R q).from_ := by
    rw [← he]
    exact List.IsPrefix.getElem hpre hlt
  have hmem : (gA R q).from_ ∈ (bfsTo R N f h).2 := by rw [← hk]; exact List.getElem_mem hlt
  have h2 := scan_closed hf hR (Srch.bfs hf hR h) hmem R.length (Nat.le_refl _) q hq rfl hc
  have h3 : bfsTo R N f (h + 1) = scanTo R (gA R q).from_ (bfsTo R N f h) R.length := by
    conv => lhs; unfold bfsTo
    rw [List.getElem?_eq_getElem hlt, hk]
  rw [← h3] at h2
  exact (bfs_pre hf hR (h := h + 1) N (by omega)).subset h2
theorem cutOf_in {N : Nat} {arcs : List Arc} (hV : Val N arcs) {f : Int} (hf : 0 ≤ f ∧ f < N) {fl : List Int} {v : Int} (hv : 0 ≤ v ∧ v < N) : (cutOf arcs N f fl).getD v.toNat false = true ↔ v ∈ (srch (restA arcs fl arcs.length) N f).2 := by
  have hS : Srch (restA arcs fl arcs.length) N f (srch (restA arcs fl arcs.length) N f) := Srch.bfs hf (rest_to hV fl) N
  have := hS.mem v.toNat (by omega)
  rw [Int.toNat_of_nonneg hv.1] at this
  rw [← this]
  unfold cutOf cutK
  rw [List.getD_eq_getElem?_getD, List.getElem?_map, List.getElem?_range (by omega)]
  simp
  omega
/-- The cut of the search that ends the rounds. -/
theorem strong {N : Nat} {arcs : List Arc} (hV : Val N arcs) {f t : Int} (hE : (0 ≤ f ∧ f < N) ∧ (0 ≤ t ∧ t < N) ∧ f ≠ t) {r : List Int} (hr : Grt N arcs f t r) :
    (cutOf arcs N f r).getD f.toNat false = true ∧ (cutOf arcs N f r).getD t.toNat false = false ∧ cutTo arcs (cutOf arcs N f r) arcs.length = valTo arcs f r arcs.length := by
  have hS : Srch (restA arcs r arcs.length) N f (srch (restA arcs r arcs.length) N f) := Srch.bfs hE.1 (rest_to hV r) N
  have c1 : (cutOf arcs N f r).getD f.toNat false = true := (cutOf_in hV hE.1 hE.1).2 (List.mem_of_getElem? hS.root.1)
  have c2 : (cutOf arcs N f r).getD t.toNat false = false := by
    rw [← Bool.not_eq_true]
    intro h
    have hm := (cutOf_in hV hE.1 hE.2.1).1 h
    have := (hS.mem t.toNat (by omega)).2 (by rw [Int.toNat_of_nonneg hE.2.1.1]; exact hm)
    have hs := hr.stop
    unfold round at hs
    rw [if_neg this] at hs
    simp at hs
  refine ⟨c1, c2, ?_⟩
  obtain ⟨d, hd, hv⟩ := hr.val
  have h0 : ∀ j : Int, 0 ≤ j → j < N → j ≠ f → j ≠ t → valTo arcs j r arcs.length = 0 := by
    intro j _ _ h1 h2
    rw [hv, if_neg (fun h => h1 h.symm), if_neg (fun h => h2 h.symm)]; rfl
  have e1 := sumN_flow arcs (cutOf arcs N f r) r arcs.length hE.1.1 c1 c2 N h0 N (Nat.le_refl _)
  rw [if_pos hE.1.2, sumN_all hV _ r _ (Nat.le_refl _)] at e1
  rw [← e1]
  have hpo := (poss_iff hr.len).1 hr.pos
  refine (sumC_eq _ (fun q hq h1 h2 => ?_) (fun q hq h1 h2 => ?_) _ (Nat.le_refl _)).symm
  · have hvi := val_in hV hq
    have hm := (cutOf_in hV hE.1 hvi.1).1 h1
    apply Classical.byContradiction
    intro hne
    have hcap := hpo q hq
    have hev := restA_even arcs r arcs.length q hq
    have := srch_closed hE.1 (rest_to hV r) (q := 2 * q) (by rw [restA_len]; omega) (by rw [hev]; exact hm) (by rw [hev]; simp only; omega)
    rw [hev] at this
    have := (cutOf_in hV hE.1 hvi.2).2 this
    rw [this] at h2
    simp at h2
  · have hvi := val_in hV hq
    have hm := (cutOf_in hV hE.1 hvi.2).1 h2
    apply Classical.byContradiction
    intro hne
    have hcap := hpo q hq
    have hod := restA_odd arcs r arcs.length q hq
    have := srch_closed hE.1 (rest_to hV r) (q := 2 * q + 1) (by rw [restA_len]; omega) (by rw [hod]; exact hm) (by rw [hod]; simp only; omega)
    rw [hod] at this
    have := (cutOf_in hV hE.1 hvi.1).2 this
    rw [this] at h1
    simp at h1
end Go.Fx.F
namespace Go.Fx.F
open Go Go.Fx Go.Proofs
/-! Paths, in plain words. -/
def lowR (rest : List Int) (w : List Nat) (m : Int) : Int := w.foldl (fun m i => min m (rest.getD i 0)) m
def tkN (rest : List Int) (w : List Nat) : Int := lowR rest w (rest.getD (w.getD 0 0) 0)
def tk1 (d : Int) (rest : List Int) (i : Nat) : List Int := rest.set i (rest.getD i 0 - d)
def tkAll (d : Int) (rest : List Int) (w : List Nat) : List Int := w.foldl (tk1 d) rest
def tkR (rest : List Int) (w : List Nat) : List Int := tkAll (tkN rest w) rest w
theorem tkAll_len {d : Int} : ∀ {w : List Nat} {rest : List Int}, (tkAll d rest w).length = rest.length
  | [], _ => rfl
  | i :: w, rest => by
    show (tkAll d (tk1 d rest i) w).length = _
    rw [tkAll_len]; simp [tk1]
theorem tkR_len {rest : List Int} {w : List Nat} : (tkR rest w).length = rest.length := tkAll_len
theorem tkAll_get {d : Int} : ∀ {w : List Nat} {rest : List Int}, w.Nodup → (∀ i ∈ w, i < rest.length) → ∀ q, (tkAll d rest w).getD q 0 = rest.getD q 0 - (if q ∈ w then d else 0)
  | [], _, _, _, q => by simp [tkAll]
  | i :: w, rest, hn, hl, q => by
    rw [List.nodup_cons] at hn
    show (tkAll d (tk1 d rest i) w).getD q 0 = _
    have hi := hl i List.mem_cons_self
    rw [tkAll_get hn.2 (fun j hj => by simp only [tk1, List.length_set]; exact hl j (List.mem_cons_of_mem _ hj)), tk1, getD_set hi]
    by_cases e : q = i
    · subst e
      rw [if_pos rfl, if_neg hn.1, if_pos List.mem_cons_self]; omega
    · rw [if_neg e]
      by_cases e2 : q ∈ w
      · rw [if_pos e2, if_pos (List.mem_cons_of_mem _ e2)]
      · rw [if_neg e2, if_neg (by rw [List.mem_cons]; exact fun h => h.elim e e2)]
theorem lowR_le (rest : List Int) : ∀ (w : List Nat) (m : Int), lowR rest w m ≤ m ∧ ∀ i ∈ w, lowR rest w m ≤ rest.getD i 0
  | [], m => ⟨Int.le_refl _, by simp⟩
  | i :: w, m => by
    have h := lowR_le rest w (min m (rest.getD i 0))
    have e : lowR rest (i :: w) m = lowR rest w (min m (rest.getD i 0)) := rfl
    rw [e]
    refine ⟨by omega, fun j hj => ?_⟩
    rw [List.mem_cons] at hj
    rcases hj with rfl | hj
    · omega
    · exact h.2 j hj
theorem lowR_is (rest : List Int) : ∀ (w : List Nat) (m : Int), lowR rest w m = m ∨ ∃ i ∈ w, lowR rest w m = rest.getD i 0
  | [], m => .inl rfl
  | i :: w, m => by
    have e : lowR rest (i :: w) m = lowR rest w (min m (rest.getD i 0)) := rfl
    rw [e]
    rcases lowR_is rest w (min m (rest.getD i 0)) with h | ⟨j, hj, h⟩
    · rw [h]
      by_cases hm : m ≤ rest.getD i 0
      · left; omega
      · right; exact ⟨i, List.mem_cons_self, by omega⟩
    · right; exact ⟨j, List.mem_cons_of_mem _ hj, h⟩
theorem tkN_is {rest : List Int} {w : List Nat} (hw : w ≠ []) : (∀ i ∈ w, tkN rest w ≤ rest.getD i 0) ∧ ∃ i ∈ w, tkN rest w = rest.getD i 0 := by
  refine ⟨(lowR_le rest w _).2, ?_⟩
  rcases lowR_is rest w (rest.getD (w.getD 0 0) 0) with h | h
  · cases w with
    | nil => exact absurd rfl hw
    | cons i w => exact ⟨i, List.mem_cons_self, h⟩
  · exact h
/-- How many arcs bear flow. -/
def cnt (rest : List Int) : Nat → Nat
  | 0 => 0
  | k + 1 => cnt rest k + (if 0 < rest.getD k 0 then 1 else 0)
theorem cnt_le {a b : List Int} (h : ∀ q, a.getD q 0 ≤ b.getD q 0) : ∀ n, cnt a n ≤ cnt b n
  | 0 => Nat.le_refl _
  | n + 1 => by
    have := cnt_le h n
    have := h n
    simp only [cnt]
    split <;> split <;> omega
theorem cnt_lt {a b : List Int} (h : ∀ q, a.getD q 0 ≤ b.getD q 0) {j : Nat} (h1 : a.getD j 0 ≤ 0) (h2 : 0 < b.getD j 0) : ∀ n, j < n → cnt a n < cnt b n
  | 0, hj => by omega
  | n + 1, hj => by
    have hq := h n
    simp only [cnt]
    by_cases e : j = n
    · subst e
      have := cnt_le h j
      rw [if_neg (by omega), if_pos h2]; omega
    · have := cnt_lt h h1 h2 n (by omega)
      split <;> split <;> omega
/-- A walk over arcs. -/
def isW (arcs : List Arc) : Int → List Nat → Int → Prop
  | a, [], b => a = b
  | a, i :: w, b => (gA arcs i).from_ = a ∧ isW arcs (gA arcs i).to w b
theorem isW_snoc {arcs : List Arc} {i : Nat} : ∀ {w : List Nat} {a b : Int}, isW arcs a w b → (gA arcs i).from_ = b → isW arcs a (w ++ [i]) (gA arcs i).to
  | [], a, b, h, hi => ⟨hi.trans h.symm, rfl⟩
  | j :: w, a, b, h, hi => ⟨h.1, isW_snoc h.2 hi⟩
theorem isW_drop {arcs : List Arc} : ∀ {w : List Nat} {a b : Int} {k : Nat}, isW arcs a w b → (hk : k < w.length) → isW arcs (gA arcs w[k]).from_ (w.drop k) b
  | [], _, _, k, _, hk => by simp at hk
  | j :: w, a, b, 0, h, _ => ⟨rfl, h.2⟩
  | j :: w, a, b, k + 1, h, hk => by
    have := isW_drop (k := k) h.2 (by simpa using hk)
    simpa using this
theorem valTo_tkAll (arcs : List Arc) (x d : Int) : ∀ (w : List Nat) (rest : List Int) (a b : Int), isW arcs a w b → (∀ i ∈ w, i < rest.length) → rest.length = arcs.length → valTo arcs x (tkAll d rest w) arcs.length = valTo arcs x rest arcs.length - (if a = x then d else 0) + (if b = x then d else 0)
  | [], rest, a, b, h, _, _ => by
    have : a = b := h
    subst this
    show valTo arcs x rest arcs.length = _
    omega
  | i :: w, rest, a, b, h, hl, hr => by
    have hi := hl i List.mem_cons_self
    have ih := valTo_tkAll arcs x d w (tk1 d rest i) (gA arcs i).to b h.2 (fun j hj => by simp only [tk1, List.length_set]; exact hl j (List.mem_cons_of_mem _ hj)) (by simp [tk1, hr])
    show valTo arcs x (tkAll d (tk1 d rest i) w) arcs.length = _
    rw [ih]
    have hs : tk1 d rest i = rest.set i (rest.getD i 0 + (-d)) := by simp only [tk1]; congr 1
    rw [hs, valTo_set arcs x rest i (-d) hi, if_pos (by omega), h.1]
    split <;> split <;> split <;> omega
def firstI (arcs : List Arc) (rest : List Int) (at_ : Int) : Option Nat := (List.range arcs.length).find? fun i => decide ((gA arcs i).from_ = at_) && decide (0 < rest.getD i 0)
def seenI (arcs : List Arc) (way : List Nat) (at_ : Int) : Option Nat := way.findIdx? fun i => decide ((gA arcs i).from_ = at_)
/-- One attempt to find a way: what is left if a circle is found, or the way. -/
def att (arcs : List Arc) (t : Int) : Nat → List Int → List Nat → Int → List Int × Option (List Nat)
  | 0, rest, _, _ => (rest, none)
  | n + 1, rest, way, at_ => if at_ = t then (rest, some way) else match firstI arcs rest at_ with
    | none => (rest, some [])
    | some i => match seenI arcs (way ++ [i]) (gA arcs i).to with
      | some k => (tkR rest ((way ++ [i]).drop k), none)
      | none => att arcs t n rest (way ++ [i]) (gA arcs i).to
/-- A flow that is left. -/
structure Fv (N : Nat) (arcs : List Arc) (f t : Int) (rest : List Int) : Prop where
  len : rest.length = arcs.length
  rng : ∀ q, 0 ≤ rest.getD q 0 ∧ rest.getD q 0 ≤ 1073741824
  con : ∀ j : Int, 0 ≤ j → j < N → j ≠ f → j ≠ t → valTo arcs j rest arcs.length = 0
/-- A way that has been begun. -/
structure Wv (N : Nat) (arcs : List Arc) (f : Int) (rest : List Int) (way : List Nat) (at_ : Int) : Prop where
  walk : isW arcs f way at_
  pos : ∀ i ∈ way, i < arcs.length ∧ 0 < rest.getD i 0
  nod : (way.map fun i => (gA arcs i).from_).Nodup
  new : at_ ∉ way.map fun i => (gA arcs i).from_
  rng : 0 ≤ at_ ∧ at_ < N
theorem out_le {arcs : List Arc} {rest : List Int} {v : Int} (hr : ∀ q, 0 ≤ rest.getD q 0) : ∀ n, (∀ i, i < n → (gA arcs i).from_ = v → rest.getD i 0 ≤ 0) → valTo arcs v rest n ≤ 0
  | 0, _ => Int.le_refl _
  | n + 1, h => by
    have ih := out_le hr n fun i hi => h i (by omega)
    have h1 := hr n
    have h2 := h n (by omega)
    have e : valTo arcs v rest (n + 1) = valTo arcs v rest n + (if (gA arcs n).from_ = v then rest.getD n 0 else 0) - (if (gA arcs n).to = v then rest.getD n 0 else 0) := rfl
    rw [e]
    by_cases c : (gA arcs n).from_ = v
    · have := h2 c
      rw [if_pos c]; split <;> omega
    · rw [if_neg c]; split <;> omega
theorem out_lt {arcs : List Arc} {rest : List Int} {v : Int} (hr : ∀ q, 0 ≤ rest.getD q 0) {j : Nat} (hj : (gA arcs j).to = v) (hp : 0 < rest.getD j 0) : ∀ n, j < n → (∀ i, i < n → (gA arcs i).from_ = v → rest.getD i 0 ≤ 0) → valTo arcs v rest n < 0
  | 0, h, _ => by omega
  | n + 1, hn, h => by
    have h1 := hr n
    have h2 := h n (by omega)
    have e : valTo arcs v rest (n + 1) = valTo arcs v rest n + (if (gA arcs n).from_ = v then rest.getD n 0 else 0) - (if (gA arcs n).to = v then rest.getD n 0 else 0) := rfl
    rw [e]
    by_cases ej : j = n
    · subst ej
      have ih := out_le hr j fun i hi => h i (by omega)
      rw [if_pos hj]
      by_cases c : (gA arcs j).from_ = v
      · have := h2 c; omega
      · rw [if_neg c]; omega
    · have ih := out_lt hr hj hp n (by omega) fun i hi => h i (by omega)
      by_cases c : (gA arcs n).from_ = v
      · have := h2 c
        rw [if_pos c]; split <;> omega
      · rw [if_neg c]; split <;> omega
/-- From where a way has come it goes on. -/
theorem first_ex {N : Nat} {arcs : List Arc} {f t : Int} {rest : List Int} {way : List Nat} {at_ : Int} (hF : Fv N arcs f t rest) (hv : 0 < valTo arcs f rest arcs.length) (hW : Wv N arcs f rest way at_) (hat : at_ ≠ t) : ∃ i, firstI arcs rest at_ = some i := by
  cases hfi : firstI arcs rest at_ with
  | some i => exact ⟨i, rfl⟩
  | none =>
    unfold firstI at hfi
    rw [List.find?_eq_none] at hfi
    have hno : ∀ i, i < arcs.length → (gA arcs i).from_ = at_ → rest.getD i 0 ≤ 0 := by
      intro i hi hf
      have := hfi i (List.mem_range.2 hi)
      simp [hf] at this
      have h2 : rest.getD i 0 = rest[i]?.getD 0 := List.getD_eq_getElem?_getD
      omega
    exfalso
    by_cases he : way = []
    · have h1 : f = at_ := by have := hW.walk; rw [he] at this; exact this
      have := out_le (fun q => (hF.rng q).1) arcs.length hno
      rw [← h1] at this; omega
    · have hlast : ∃ j ∈ way, (gA arcs j).to = at_ := by
        have : ∀ (w : List Nat) (a : Int), w ≠ [] → isW arcs a w at_ → ∃ j ∈ w, (gA arcs j).to = at_ := by
          intro w
          induction w with
          | nil => intro a h; exact absurd rfl h
          | cons j w ih =>
            intro a _ h
            cases w with
            | nil => exact ⟨j, List.mem_cons_self, h.2⟩
            | cons k w =>
              obtain ⟨q, h1, h2⟩ := ih (gA arcs j).to (by simp) h.2
              exact ⟨q, List.mem_cons_of_mem _ h1, h2⟩
        exact this way f he hW.walk
      obtain ⟨j, hj, hjt⟩ := hlast
      have hp := hW.pos j hj
      have hlt := out_lt (fun q => (hF.rng q).1) hjt hp.2 arcs.length hp.1 hno
      have haf : at_ ≠ f := by
        intro e
        apply hW.new
        cases way with
        | nil => exact absurd rfl he
        | cons k w => rw [e, ← hW.walk.1]; exact List.mem_map_of_mem (f := fun i => (gA arcs i).from_) List.mem_cons_self
      have := hF.con at_ hW.rng.1 hW.rng.2 haf hat
      omega
theorem first_is {arcs : List Arc} {rest : List Int} {at_ : Int} {i : Nat} (h : firstI arcs rest at_ = some i) : i < arcs.length ∧ (gA arcs i).from_ = at_ ∧ 0 < rest.getD i 0 := by
  unfold firstI at h
  have h1 := List.find?_some h
  have h2 := List.mem_of_find?_eq_some h
  simp only [Bool.and_eq_true, decide_eq_true_eq] at h1
  exact ⟨List.mem_range.1 h2, h1⟩
end Go.Fx.F
namespace Go.Fx.F
open Go Go.Fx Go.Proofs
theorem seen_is {arcs : List Arc} {way : List Nat} {at_ : Int} {k : Nat} (h : seenI arcs way at_ = some k) : ∃ hk : k < way.length, (gA arcs way[k]).from_ = at_ ∧ ∀ j (hj : j < way.length), j < k → (gA arcs way[j]).from_ ≠ at_ := by
  unfold seenI at h
  rw [List.findIdx?_eq_some_iff_getElem] at h
  obtain ⟨hk, h1, h2⟩ := h
  refine ⟨hk, by simpa using h1, fun j hj hlt => ?_⟩
  have := h2 j hlt
  simpa using this
theorem seen_no {arcs : List Arc} {way : List Nat} {at_ : Int} (h : seenI arcs way at_ = none) : at_ ∉ way.map fun i => (gA arcs i).from_ := by
  unfold seenI at h
  rw [List.findIdx?_eq_none_iff] at h
  intro hm
  rw [List.mem_map] at hm
  obtain ⟨i, hi, he⟩ := hm
  have := h i hi
  simp [he] at this
theorem nodup_of_map {α β : Type} {g : α → β} : ∀ {l : List α}, (l.map g).Nodup → l.Nodup
  | [], _ => List.nodup_nil
  | x :: r, h => by
    rw [List.map_cons, List.nodup_cons] at h
    rw [List.nodup_cons]
    exact ⟨fun hx => h.1 (List.mem_map_of_mem hx), nodup_of_map h.2⟩
section
variable {N : Nat} {arcs : List Arc} {f t : Int}
theorem Wv.begin (hf : 0 ≤ f ∧ f < N) (rest : List Int) : Wv N arcs f rest [] f := ⟨rfl, by simp, by simp, by simp, hf⟩
theorem Wv.len {rest : List Int} {way : List Nat} {at_ : Int} (hV : Val N arcs) (h : Wv N arcs f rest way at_) : way.length ≤ N := by
  have := nodup_le N h.nod (by
    intro v hv
    rw [List.mem_map] at hv
    obtain ⟨i, hi, rfl⟩ := hv
    exact (val_in hV (h.pos i hi).1).1)
  simpa using this
theorem Wv.half {rest : List Int} {way : List Nat} {at_ : Int} {i : Nat} (h : Wv N arcs f rest way at_) (hi : firstI arcs rest at_ = some i) : isW arcs f (way ++ [i]) (gA arcs i).to ∧ (∀ j ∈ way ++ [i], j < arcs.length ∧ 0 < rest.getD j 0) ∧ ((way ++ [i]).map fun i => (gA arcs i).from_).Nodup := by
  have h1 := first_is hi
  refine ⟨isW_snoc h.walk h1.2.1, fun j hj => ?_, ?_⟩
  · rw [List.mem_append, List.mem_singleton] at hj
    rcases hj with hj | rfl
    · exact h.pos j hj
    · exact ⟨h1.1, h1.2.2⟩
  · rw [List.map_append, List.nodup_append]
    refine ⟨h.nod, by simp, fun a ha b hb => ?_⟩
    rw [List.map_cons, List.map_nil, List.mem_singleton] at hb
    rw [hb, h1.2.1]
    intro e
    rw [e] at ha
    exact h.new ha
theorem Wv.more {rest : List Int} {way : List Nat} {at_ : Int} {i : Nat} (hV : Val N arcs) (h : Wv N arcs f rest way at_) (hi : firstI arcs rest at_ = some i) (hs : seenI arcs (way ++ [i]) (gA arcs i).to = none) : Wv N arcs f rest (way ++ [i]) (gA arcs i).to := by
  obtain ⟨h1, h2, h3⟩ := h.half hi
  exact ⟨h1, h2, h3, seen_no hs, (val_in hV (first_is hi).1).2⟩
/-- What is taken from the arcs of a walk. -/
theorem take_ok {rest : List Int} (hF : Fv N arcs f t rest) {w : List Nat} {a b : Int} (hw : isW arcs a w b) (hne : w ≠ []) (hnd : w.Nodup) (hp : ∀ j ∈ w, j < arcs.length ∧ 0 < rest.getD j 0) :
    0 < tkN rest w ∧ (tkR rest w).length = arcs.length ∧ (∀ q, 0 ≤ (tkR rest w).getD q 0 ∧ (tkR rest w).getD q 0 ≤ 1073741824) ∧ cnt (tkR rest w) arcs.length < cnt rest arcs.length ∧
      ∀ x, valTo arcs x (tkR rest w) arcs.length = valTo arcs x rest arcs.length - (if a = x then tkN rest w else 0) + (if b = x then tkN rest w else 0) := by
  obtain ⟨h1, j, hj, h2⟩ := tkN_is (rest := rest) hne
  have h3 := hp j hj
  have hget := tkAll_get (d := tkN rest w) hnd (rest := rest) (fun i hi => by rw [hF.len]; exact (hp i hi).1)
  have hget2 : ∀ q, (tkR rest w).getD q 0 = rest.getD q 0 - (if q ∈ w then tkN rest w else 0) := hget
  have h0 : 0 < tkN rest w := by rw [h2]; exact h3.2
  refine ⟨h0, by rw [tkR_len, hF.len], fun q => ?_, ?_, fun x => valTo_tkAll arcs x _ w rest a b hw (fun i hi => by rw [hF.len]; exact (hp i hi).1) hF.len⟩
  · have hr := hF.rng q
    rw [hget2]
    by_cases hq : q ∈ w
    · have := h1 q hq
      rw [if_pos hq]; omega
    · rw [if_neg hq]; omega
  · refine cnt_lt (fun q => ?_) (j := j) ?_ h3.2 arcs.length h3.1
    · rw [hget2]; split <;> omega
    · rw [hget2, if_pos hj]; omega
theorem take_Fv {rest : List Int} (hF : Fv N arcs f t rest) {w : List Nat} {a b : Int} (hw : isW arcs a w b) (hne : w ≠ []) (hnd : w.Nodup) (hp : ∀ j ∈ w, j < arcs.length ∧ 0 < rest.getD j 0) (hab : a = b ∨ (a = f ∧ b = t)) : Fv N arcs f t (tkR rest w) := by
  obtain ⟨_, h1, h2, _, h3⟩ := take_ok hF hw hne hnd hp
  refine ⟨h1, h2, fun j q1 q2 q3 q4 => ?_⟩
  rw [h3, hF.con j q1 q2 q3 q4]
  rcases hab with rfl | ⟨rfl, rfl⟩
  · split <;> omega
  · rw [if_neg (fun e => q3 e.symm), if_neg (fun e => q4 e.symm)]; rfl
/-- What one attempt brings. -/
def AttOk (N : Nat) (arcs : List Arc) (f t : Int) (rest : List Int) (r : List Int × Option (List Nat)) : Prop :=
  (∃ w, r = (rest, some w) ∧ w ≠ [] ∧ isW arcs f w t ∧ w.Nodup ∧ ∀ j ∈ w, j < arcs.length ∧ 0 < rest.getD j 0) ∨
  (∃ rest', r = (rest', none) ∧ Fv N arcs f t rest' ∧ valTo arcs f rest' arcs.length = valTo arcs f rest arcs.length ∧ cnt rest' arcs.length < cnt rest arcs.length)
theorem att_ok (hV : Val N arcs) (hft : f ≠ t) {rest : List Int} (hF : Fv N arcs f t rest) (hv : 0 < valTo arcs f rest arcs.length) : ∀ (n : Nat) (way : List Nat) (at_ : Int), Wv N arcs f rest way at_ → N + 1 = way.length + n → AttOk N arcs f t rest (att arcs t n rest way at_)
  | 0, way, at_, hW, hn => by
    have := hW.len hV
    omega
  | n + 1, way, at_, hW, hn => by
    unfold att
    by_cases hat : at_ = t
    · rw [if_pos hat]
      refine .inl ⟨way, rfl, ?_, hat ▸ hW.walk, nodup_of_map hW.nod, hW.pos⟩
      intro he
      have := hW.walk
      rw [he] at this
      exact hft (this.trans hat)
    · rw [if_neg hat]
      obtain ⟨i, hi⟩ := first_ex hF hv hW hat
      rw [hi]
      simp only
      cases hs : seenI arcs (way ++ [i]) (gA arcs i).to with
      | none => exact att_ok hV hft hF hv n (way ++ [i]) _ (hW.more hV hi hs) (by simp; omega)
      | some k =>
        obtain ⟨hk, h1, _⟩ := seen_is hs
        obtain ⟨g1, g2, g3⟩ := hW.half hi
        have hd := isW_drop g1 hk
        rw [h1] at hd
        have hne : (way ++ [i]).drop k ≠ [] := by
          intro e
          have := congrArg List.length e
          rw [List.length_drop, List.length_nil] at this
          omega
        have hnd : ((way ++ [i]).drop k).Nodup := List.Nodup.sublist (List.drop_sublist _ _) (nodup_of_map g3)
        have hp : ∀ j ∈ (way ++ [i]).drop k, j < arcs.length ∧ 0 < rest.getD j 0 := fun j hj => g2 j (List.mem_of_mem_drop hj)
        have hto := take_ok hF hd hne hnd hp
        refine .inr ⟨_, rfl, take_Fv hF hd hne hnd hp (.inl rfl), ?_, hto.2.2.2.1⟩
        rw [hto.2.2.2.2]
        split <;> omega
/-- A way is found, once circles are taken away. -/
inductive PW (N : Nat) (arcs : List Arc) (f t : Int) : List Int → List Int → List Nat → Prop where
  | way {rest : List Int} {w : List Nat} (h : att arcs t (N + 1) rest [] f = (rest, some w)) : PW N arcs f t rest rest w
  | circ {rest rest1 rest' : List Int} {w : List Nat} (h : att arcs t (N + 1) rest [] f = (rest1, none)) (h2 : PW N arcs f t rest1 rest' w) : PW N arcs f t rest rest' w
/-- The ways, and their numbers. -/
inductive PR (N : Nat) (arcs : List Arc) (f t : Int) : List Int → List (List Nat) → List Int → Prop where
  | stop {rest : List Int} (h : valTo arcs f rest arcs.length ≤ 0) : PR N arcs f t rest [] []
  | step {rest rest1 : List Int} {w : List Nat} {ws : List (List Nat)} {ns : List Int} (h : 0 < valTo arcs f rest arcs.length) (h2 : PW N arcs f t rest rest1 w) (h3 : PR N arcs f t (tkR rest1 w) ws ns) : PR N arcs f t rest (w :: ws) (tkN rest1 w :: ns)
theorem PW.ok (hV : Val N arcs) (hf : 0 ≤ f ∧ f < N) (hft : f ≠ t) : ∀ (c : Nat) (rest : List Int), cnt rest arcs.length ≤ c → Fv N arcs f t rest → 0 < valTo arcs f rest arcs.length →
    ∃ rest1 w, PW N arcs f t rest rest1 w ∧ Fv N arcs f t rest1 ∧ valTo arcs f rest1 arcs.length = valTo arcs f rest arcs.length ∧ cnt rest1 arcs.length ≤ cnt rest arcs.length ∧ w ≠ [] ∧ isW arcs f w t ∧ w.Nodup ∧ ∀ j ∈ w, j < arcs.length ∧ 0 < rest1.getD j 0
  | c, rest, hc, hF, hv => by
    rcases att_ok hV hft hF hv (N + 1) [] f (Wv.begin hf rest) (by simp) with ⟨w, h1, h2, h3, h4, h5⟩ | ⟨rest', h1, h2, h3, h4⟩
    · exact ⟨rest, w, .way h1, hF, rfl, Nat.le_refl _, h2, h3, h4, h5⟩
    · cases c with
      | zero => omega
      | succ c =>
        obtain ⟨rest1, w, g1, g2, g3, g4, g5⟩ := PW.ok hV hf hft c rest' (by omega) h2 (by omega)
        exact ⟨rest1, w, .circ h1 g1, g2, g3.trans h3, by omega, g5⟩
theorem PR.ex (hV : Val N arcs) (hf : 0 ≤ f ∧ f < N) (hft : f ≠ t) : ∀ (c : Nat) (rest : List Int), cnt rest arcs.length ≤ c → Fv N arcs f t rest → ∃ ws ns, PR N arcs f t rest ws ns
  | c, rest, hc, hF => by
    by_cases hv : 0 < valTo arcs f rest arcs.length
    · obtain ⟨rest1, w, g1, g2, g3, g4, g5, g6, g7, g8⟩ := PW.ok hV hf hft _ rest (Nat.le_refl _) hF hv
      have ht := take_ok g2 g6 g5 g7 g8
      cases c with
      | zero =>
        have := ht.2.2.2.1
        omega
      | succ c =>
        obtain ⟨ws, ns, h⟩ := PR.ex hV hf hft c (tkR rest1 w) (by have := ht.2.2.2.1; omega) (take_Fv g2 g6 g5 g7 g8 (.inr ⟨rfl, rfl⟩))
        exact ⟨_, _, .step hv g1 h⟩
    · exact ⟨[], [], .stop (by omega)⟩
theorem PW.det {rest r1 r2 : List Int} {w1 w2 : List Nat} (h : PW N arcs f t rest r1 w1) (h2 : PW N arcs f t rest r2 w2) : r1 = r2 ∧ w1 = w2 := by
  induction h with
  | way h => cases h2 with
    | way g => rw [h] at g; simp at g; exact ⟨rfl, g⟩
    | circ g _ => rw [h] at g; simp at g
  | circ h _ ih => cases h2 with
    | way g => rw [h] at g; simp at g
    | circ g g2 =>
      rw [h] at g
      simp only [Prod.mk.injEq, and_true] at g
      subst g
      exact ih g2
/-- A circle is taken away: the ways stay. -/
theorem PR.circ {rest rest1 : List Int} {ws : List (List Nat)} {ns : List Int} (h : PR N arcs f t rest ws ns) (hv : 0 < valTo arcs f rest arcs.length) (ha : att arcs t (N + 1) rest [] f = (rest1, none)) (hv1 : 0 < valTo arcs f rest1 arcs.length) : PR N arcs f t rest1 ws ns := by
  cases h with
  | stop h => omega
  | step h h2 h3 =>
    cases h2 with
    | way g => rw [ha] at g; simp at g
    | circ g g2 =>
      rw [ha] at g
      simp only [Prod.mk.injEq, and_true] at g
      subst g
      exact .step hv1 g2 h3
theorem PR.way {rest : List Int} {w : List Nat} {ws : List (List Nat)} {ns : List Int} (h : PR N arcs f t rest ws ns) (hv : 0 < valTo arcs f rest arcs.length) (ha : att arcs t (N + 1) rest [] f = (rest, some w)) : ∃ ws' ns', ws = w :: ws' ∧ ns = tkN rest w :: ns' ∧ PR N arcs f t (tkR rest w) ws' ns' := by
  cases h with
  | stop h => omega
  | step h h2 h3 =>
    obtain ⟨rfl, rfl⟩ := (PW.way ha).det h2
    exact ⟨_, _, rfl, rfl, h3⟩
end
end Go.Fx.F
namespace Go.Fx.F
open Go Go.Fx Go.Proofs
set_option maxRecDepth 20000
theorem ok_ghost {f : FuncId} {xs : List V} {x y : V} {hs hs' : List Blk} (h : Ok f xs (IsA x hs)) (hy : leG [] ⟨[(0, x)], hs, 0⟩ ⟨[(0, y)], hs', 0⟩) : Ok f xs (IsA y hs') :=
  ⟨h.1, Fn_ghost h.2 (by rintro r h' ⟨rfl, rfl⟩; exact ⟨y, hs', ⟨rfl, rfl⟩, hy⟩)⟩
def bigB (x : Int) : Bool := decide (1073741824 < x ∨ x < -1073741824)
theorem ok41 (x : Int) : Ok 41 [.i x] (Is (.b (bigB x))) := by
  refine ok_of lw41 (by simp) ?_
  unfold c41
  simp -implicitDefEqProofs only [qF, qI, qN, qO, qP, qQ, qR, qS, qZ, zJ, zL, zM, zP, ofConst, List.length_nil, ↓reduceIte, Nat.reduceEqDiff, zR, zT, Bool.not_false, ↓zU, ↓zV, zW, List.nil_append, List.append_nil, reduceCtorEq, zY, resP, tupV, List.reverse_cons, List.reverse_nil, wfV, true_and, V.v.injEq, Value.int.injEq, Value.bool.injEq, Bool.false_eq_true, jo, ↓qaR, ↓qaT, args0]
  simp only [br, decide_eq_true_eq, decide_eq_false_iff_not, bigB]
  grind
def firstB (l : List Int) : Int := if l.any bigB then (l.findIdx bigB : Nat) else -1
theorem ok46 (l : List Int) : Ok 46 [li l, .clo 41 []] (Is (.i (firstB l))) := by
  refine ok_of lw46 (by simp) ?_
  unfold c46 li
  simp -implicitDefEqProofs only [qF, qI, qK, qL, qO, qP, qR, zb, zJ, zL, zM, zP, ofConst, List.length_nil, ↓reduceIte, List.append_nil, Nat.zero_add, reduceCtorEq, List.length_map, jo, ↓jN, List.length_map, cx0_fx, args0]
  intro hm
  refine loopP_intro (fun k : Nat => ⟨[(8, .i k), (7, .i l.length), (1, .clo 41 []), (0, .bro 1 (l.map encI))], [], 0⟩) (fun k => k ≤ l.length ∧ ∀ j (h : j < l.length), j < k → bigB l[j] = false) (fun k => l.length - k) 0 (by simp) ?_ ?_
  · simp -implicitDefEqProofs only [zP, ↓reduceIte, Nat.reduceEqDiff, reduceCtorEq, zZ, leE, leH, keepP, wfE, wfB, wfV, wfL, Bool.and_self, and_self, Int.natCast_zero]
  rintro k ⟨hk, hv⟩
  simp -implicitDefEqProofs only [qE, qF, qI, qJ, qK, qM, qN, qO, qP, qR, qV, qY, qZ, zG, zJ, zL, zM, zP, ofConst, List.length_nil, ↓reduceIte, Nat.reduceEqDiff, zR, zT, List.nil_append, List.append_nil, reduceCtorEq, zY, resP, tupV, List.reverse_cons, List.reverse_nil, wfV, List.map_cons, List.map_nil, true_and, V.v.injEq, Value.int.injEq, Value.bool.injEq, List.length_map, jo, ↓jp, ↓jt, ↓jy, ↓jI, ↓jU, ↓qaR, List.length_map, List.getElem_map, encI_0, Int.toNat_natCast]
  simp only [br, Int.toNat_natCast, decide_eq_true_eq, decide_eq_false_iff_not]
  refine ⟨fun h => ⟨⟨by omega, h⟩, by omega, ?_⟩, fun h => ?_⟩
  · have hk : k < l.length := by omega
    refine call_is (ok41 l[k]) ?_ rfl ?_
    · simp [lendsOk, lendOk, lends, lend, wkL, wk, pos]
    cases hb : bigB l[k] with
    | true =>
      simp -implicitDefEqProofs only [qF, qI, qJ, qN, qO, qP, qR, zJ, zL, zP, List.length_nil, ↓reduceIte, Nat.reduceEqDiff, zT, ↓zU, List.nil_append, List.append_nil, zY, resP, tupV, List.reverse_cons, List.reverse_nil, wfV, true_and, V.v.injEq, Value.int.injEq, Value.bool.injEq, jo]
      have h1 : l.any bigB = true := by
        rw [List.any_eq_true]; exact ⟨_, List.getElem_mem hk, hb⟩
      have h2 : l.findIdx bigB = k := by
        rw [List.findIdx_eq hk]
        exact ⟨hb, fun j hj => hv j (by omega) hj⟩
      simp [firstB, h1, h2]
    | false =>
      simp -implicitDefEqProofs only [qE, qF, qJ, qO, qP, qR, qZ, zJ, zL, zM, zP, ofConst, List.length_nil, ↓reduceIte, Nat.reduceEqDiff, zR, zT, ↓zV, List.append_nil, reduceCtorEq, zZ, leE, leH, keepP, wfE, wfB, wfV, wfL, Bool.and_true, Bool.and_self, true_and, and_true, and_self, V.v.injEq, Value.int.injEq, Value.bool.injEq, jo, ↓qaJ]
      refine ⟨by simp only [lo, hi, maxLen] at hm ⊢; omega, k + 1, ⟨⟨by omega, fun j hj h2 => ?_⟩, by omega⟩, by simp⟩
      by_cases h3 : j = k
      · subst h3; exact hb
      · exact hv j hj (by omega)
  · have : k = l.length := by omega
    have hall : l.any bigB = false := by
      rw [List.any_eq_false]
      intro a ha
      obtain ⟨j, hj, rfl⟩ := List.getElem_of_mem ha
      rw [hv j hj (by omega)]; simp
    simp [firstB, hall]
theorem ok40 (l : List Int) : Ok 40 [li l, .clo 41 []] (Is (.b (l.any bigB))) := by
  refine ok_of lw40 (by simp) ?_
  unfold c40 li
  simp -implicitDefEqProofs only [qF, qI, qO, qP, qR, zD, zJ, zL, zM, zP, ofConst, List.length_nil, ↓reduceIte, Nat.reduceEqDiff, List.append_nil, Nat.zero_add, reduceCtorEq, List.map_cons, List.map_nil, jo, args0]
  refine call_is (ok46 l) ?_ rfl ?_
  · simp [li, lendsOk, lendOk, lends, lend, wkL, wk, wkB, pos]
  simp -implicitDefEqProofs only [qN, qO, qP, qR, qZ, zJ, zL, zM, zP, ofConst, ↓reduceIte, zR, List.nil_append, zY, resP, tupV, List.reverse_cons, List.reverse_nil, wfV, true_and, V.v.injEq, Value.int.injEq, Value.bool.injEq, ↓qaU]
  unfold firstB
  by_cases h : l.any bigB = true
  · simp [h]
  · simp only [h]
    simp
theorem ok44 (n : Int) (arcs : List Arc) (l : List Int) : Ok 44 [net n arcs, li l] (Is (.b (decide ((l.length : Int) = n) && !l.any bigB))) := by
  refine ok_of lw44 (by simp) ?_
  unfold c44 li
  simp -implicitDefEqProofs only [qF, qI, qK, qL, qO, qP, qR, qT, zJ, zL, zM, zP, ofConst, cells?, List.length_nil, List.length_cons, List.set_cons_zero, List.getElem?_cons_zero, ↓reduceIte, List.nil_append, List.append_nil, Nat.zero_add, Nat.add_zero, freshP, true_and, kf, jo, ↓jp, cx0_fx, args0, net]
  refine loopP_intro (fun k : Nat => ⟨[(5, .i k), (2, .ptr 0 0 0), (1, .bro 1 (l.map encI))], [.var [.i n, .bro 4 (arcs.map Arc.enc)]], 0⟩) (fun k => k ≤ l.length ∧ ∀ j (h : j < l.length), j < k → bigB l[j] = false) (fun k => l.length - k) 0 (by simp) ?_ ?_
  · simp -implicitDefEqProofs only [zP, List.getElem?_cons_zero, ↓reduceIte, Nat.reduceEqDiff, reduceCtorEq, zZ, leE, leH, leB, leV, leVs, keepP, liveP, wfE, wfB, wfV, wfL, Bool.and_self, and_self, leVs, leV, Int.natCast_zero]
  rintro k ⟨hk, hv⟩
  simp -implicitDefEqProofs only [qE, qF, qI, qJ, qK, qM, qN, qO, qP, qQ, qR, qS, qV, qX, qY, qZ, zb, zJ, zL, zM, zP, ofConst, List.length_nil, List.length_cons, zQ, List.getD_eq_getElem?_getD, List.getElem?_cons_zero, ↓reduceIte, Nat.reduceEqDiff, Option.getD_some, zR, zT, Bool.not_false, ↓zU, ↓zV, zW, List.nil_append, List.append_nil, Nat.zero_add, Nat.add_zero, zY, resP, tupV, List.reverse_cons, List.reverse_nil, zZ, leE, leH, leB, leV, leVs, keepP, liveP, wfE, wfB, wfV, wfL, Bool.and_true, Bool.and_self, true_and, and_true, and_self, V.v.injEq, Value.int.injEq, Value.bool.injEq, List.length_map, Bool.false_eq_true, jo, ↓jp, ↓jr, ↓jt, ↓ju, ↓jy, ↓jE, ↓jI, ↓jN, ↓qaJ, ↓qaP, ↓qaR, ↓qaT, List.length_map, List.getElem_map, encI_0, Int.toNat_natCast]
  simp only [br, Int.toNat_natCast, decide_eq_true_eq, decide_eq_false_iff_not]
  refine fun hm => ⟨fun h => ⟨⟨by omega, h⟩, by omega, ?_⟩, fun h => ?_⟩
  · have hk : k < l.length := by omega
    have hany : bigB l[k] = true → false = (decide ((l.length : Int) = n) && !l.any bigB) := by
      intro hb
      have h1 : l.any bigB = true := by
        rw [List.any_eq_true]; exact ⟨_, List.getElem_mem hk, hb⟩
      simp [h1]
    refine ⟨fun hb => hany (by simp [bigB, hb]), fun hb => ⟨⟨by omega, h⟩, by omega, fun hb2 => hany (by simp [bigB, hb2]), fun hb2 => ?_⟩⟩
    refine ⟨by simp only [lo, hi, maxLen] at hm ⊢; omega, k + 1, ⟨⟨by omega, fun j hj h2 => ?_⟩, by omega⟩, by simp⟩
    by_cases h3 : j = k
    · subst h3
      unfold bigB
      simp; omega
    · exact hv j hj (by omega)
  · have : k = l.length := by omega
    have hall : l.any bigB = false := by
      rw [List.any_eq_false]
      intro a ha
      obtain ⟨j, hj, rfl⟩ := List.getElem_of_mem ha
      rw [hv j hj (by omega)]; simp
    refine fun _ => ?_
    rw [hall]
    simp
    by_cases he : (l.length : Int) = n <;> simp [he]
theorem bi_an {k : IntKind} {a c : Int} {K : V → Prop} {x : Bool} : binInt .and x k a c K = K (.v (.int k (k.wrap ((BitVec.ofInt k.bits a &&& BitVec.ofInt k.bits c).toNat : Int)))) := rfl
theorem sh_r {k : IntKind} {a c : Int} {K : V → Prop} : shiftInt .shr k a c K = (0 ≤ c ∧ K (.v (.int k (a.fdiv (2 ^ (min c.toNat k.bits)))))) := rfl
theorem and_mask {a : Nat} (h : a < 4294967296) : IntKind.wrap .u64 (((BitVec.ofInt (IntKind.bits .u64) (a : Int) &&& BitVec.ofInt (IntKind.bits .u64) 4294967295).toNat : Nat) : Int) = (a : Int) := by
  have h1 : (BitVec.ofInt (IntKind.bits .u64) (a : Int) &&& BitVec.ofInt (IntKind.bits .u64) 4294967295).toNat = a := by
    rw [BitVec.toNat_and]
    have e1 : (BitVec.ofInt (IntKind.bits .u64) (a : Int)).toNat = a := by
      rw [BitVec.toNat_ofInt]
      show (((a : Int) % ((2 ^ 64 : Nat) : Int)).toNat) = a
      omega
    have e2 : (BitVec.ofInt (IntKind.bits .u64) 4294967295).toNat = 2 ^ 32 - 1 := by decide
    rw [e1, e2, Nat.and_two_pow_sub_one_eq_mod]
    omega
  rw [h1]
  exact wrap_in .u64 _ (by simp only [lo, hi]; omega)
theorem shr32 {a : Nat} (h : a < 4294967296) : (a : Int).fdiv (2 ^ (min (Int.toNat 32) (IntKind.bits .u64))) = 0 := by
  show (a : Int).fdiv (2 ^ 32) = 0
  rw [Int.fdiv_eq_ediv_of_nonneg _ (by decide)]
  omega
theorem ok63 (n : Nat) (h : n < 1000000) : Ok 63 [.v (.int .u64 ((1 : Nat) : Int)), .v (.int .u64 n)] (Is (.tup [.v (.int .u64 ((0 : Nat) : Int)), .v (.int .u64 n)])) := by
  refine ok_of lw63 (by simp) ?_
  unfold c63
  have e1 := and_mask (a := 1) (by omega)
  have e0 := and_mask (a := 0) (by omega)
  have en := and_mask (a := n) (by omega)
  have s1 := shr32 (a := 1) (by omega)
  have s0 := shr32 (a := 0) (by omega)
  have sn := shr32 (a := n) (by omega)
  have m1 : ((1 : Nat) : Int) * (n : Int) = n := by simp
  have m0 : (0 : Int) * (n : Int) = 0 := Int.zero_mul _
  have mz : ((1 : Nat) : Int) * 0 = 0 := rfl
  have zz : (0 : Int) * 0 = 0 := rfl
  have za : (0 : Int) + 0 = 0 := rfl
  have ez : IntKind.wrap .u64 (((BitVec.ofInt (IntKind.bits .u64) (0 : Int) &&& BitVec.ofInt (IntKind.bits .u64) 4294967295).toNat : Nat) : Int) = (0 : Int) := e0
  have sz : (0 : Int).fdiv (2 ^ (min (Int.toNat 32) (IntKind.bits .u64))) = 0 := s0
  have h32 : (0 : Int) ≤ 32 := by omega
  have b0 : (lo .u64 ≤ (0 : Int) ∧ (0 : Int) ≤ hi .u64) := by simp only [lo, hi]; omega
  have bn : (lo .u64 ≤ (n : Int) ∧ (n : Int) ≤ hi .u64) := by simp only [lo, hi]; omega
  simp -implicitDefEqProofs only [qF, qI, qN, qO, qP, qR, qZ, zn, zJ, zL, zM, zP, ofConst, List.length_nil, ↓reduceIte, Nat.reduceEqDiff, zR, List.nil_append, List.cons_append, List.append_nil, Nat.zero_add, reduceCtorEq, zY, resP, tupV, List.reverse_cons, List.reverse_nil, wfV, wfL, Bool.and_self, true_and, and_self, jo, ↓qaJ, ↓qaN, args0, ↓bi_an, ↓sh_r, e1, en, s1, sn, m1, m0, mz, zz, za, ez, sz, eq_true h32, eq_true b0, eq_true bn]
  first | rfl | trivial
theorem ok58 (n : Nat) (h : n < 1000000) : Ok 58 [.v (.int .u64 ((1 : Nat) : Int)), .v (.int .u64 n)] (Is (.tup [.v (.int .u64 ((0 : Nat) : Int)), .v (.int .u64 n)])) := by
  refine ok_of lw58 (by simp) ?_
  unfold c58
  simp -implicitDefEqProofs only [qE, qF, qI, qJ, qO, qP, qR, zf, zD, zJ, zL, zM, zP, ofConst, List.length_nil, ↓reduceIte, Nat.reduceEqDiff, zR, zT, ↓zV, List.append_nil, Nat.zero_add, reduceCtorEq, List.map_cons, List.map_nil, Bool.false_eq_true, jo, args0]
  refine call_is (ok63 n h) ?_ rfl ?_
  · simp [lendsOk, lendOk, lends, lend, wkL, wk, pos]
  simp -implicitDefEqProofs only [qF, qI, qN, qO, qP, qR, zE, zJ, zL, zP, List.length_nil, List.getElem?_cons_zero, ↓reduceIte, Nat.reduceEqDiff, List.nil_append, List.cons_append, List.append_nil, zY, resP, tupV, List.reverse_cons, List.reverse_nil, wfV, wfL, Bool.and_self, and_self, lg0, jo, ↓jp, ↓jR]
theorem rep_app {n m : Nat} {x : List V} : List.replicate n x ++ List.replicate m x = List.replicate (n + m) x := by
  rw [List.replicate_append_replicate]
theorem ok43 (N : Nat) (h1 : 1 ≤ N) (h2 : N ≤ 1000) : Ok 43 [lb [true], .i N] (Is (.ro 1 (List.replicate N (encB true)))) := by
  refine ok_give (x := .sl 0 0 N) (hs := [.arr 1 (List.replicate N (encB true))]) ?_ (by simp [gvV, blk, wk, wkR])
  refine ok_of lw43 (by simp) ?_
  unfold c43 lb
  have w1 : IntKind.wrap .u64 (((1 : Nat) : Int)) = ((1 : Nat) : Int) := wrap_in .u64 _ (by simp only [lo, hi]; omega)
  have wn : IntKind.wrap .u64 (N : Int) = N := wrap_in .u64 _ (by simp only [lo, hi]; omega)
  have wi : IntKind.wrap .i64 (N : Int) = N := wrap_in .i64 _ (by simp only [lo, hi]; omega)
  have hneg : decide ((N : Int) < 0) = false := decide_eq_false (by omega)
  have hz : decide ((0 : Int) < ((0 : Nat) : Int)) = false := rfl
  have hbig : decide ((9223372036854775807 : Int) < (N : Int)) = false := decide_eq_false (by omega)
  have hff : (if false = true then (lo .u64 ≤ 0 ∧ 0 ≤ hi .u64) else False) = False := by simp
  simp -implicitDefEqProofs only [qE, qF, qI, qJ, qO, qP, qR, qZ, zb, zf, zD, zJ, zL, zM, zP, ofConst, List.length_nil, List.length_cons, ↓reduceIte, Nat.reduceEqDiff, zR, zT, ↓zV, List.append_nil, Nat.zero_add, reduceCtorEq, List.map_cons, List.map_nil, true_and, Bool.false_eq_true, jo, ↓jN, ↓qaR, args0, hneg]
  intro _
  simp -implicitDefEqProofs only [w1, wn]
  refine call_is (ok58 N (by omega)) ?_ rfl ?_
  · simp [lendsOk, lendOk, lends, lend, wkL, wk, pos, w1]
  simp -implicitDefEqProofs only [qE, qF, qI, qJ, qK, qL, qO, qP, qQ, qR, qS, qZ, zf, zq, zt, zE, zJ, zL, zM, zP, ofConst, List.length_nil, List.length_cons, List.set_cons_zero, zQ, List.getD_eq_getElem?_getD, List.getElem?_cons_zero, ↓reduceIte, Nat.reduceEqDiff, Option.getD_some, zR, zT, Bool.not_false, ↓zU, ↓zV, zW, List.nil_append, List.append_nil, Nat.zero_add, Nat.add_zero, reduceCtorEq, freshP, List.map_cons, List.map_nil, List.take_zero, Bool.and_self, true_and, and_self, List.not_mem_nil, false_or, List.length_replicate, not_false_eq_true, Bool.false_eq_true, Nat.le_refl, lg0, kf, jo, ↓jp, ↓jR, ↓jZ, ↓qar, ↓qas, ↓qaT, Int.toNat_natCast, cx0_bn, cx0_fx, hz, hbig, wi]
  refine ⟨⟨⟨by omega, by omega⟩, by omega, by omega⟩, ?_⟩
  have hmin : min 1 N = 1 := by omega
  refine loopP_intro (fun n : Nat => ⟨[(8, .i n), (7, .sl 0 0 N)], [.arr 1 (List.replicate n (encB true) ++ List.replicate (N - n) (encB false))], 0⟩) (fun n => 1 ≤ n ∧ n ≤ N) (fun n => N - n) 1 (by omega) ?_ ?_
  · simp -implicitDefEqProofs only [zP, List.getElem?_cons_zero, ↓reduceIte, Nat.reduceEqDiff, List.nil_append, List.cons_append, zZ, leE, leH, leB, keepP, liveP, wfE, wfB, wfV, Bool.and_true, Bool.and_self, true_and, and_true, and_self, kf, jo, hmin]
    have : List.take N [encB true] = [encB true] := List.take_of_length_le (by simp; omega)
    rw [this, List.drop_replicate]
    simp
    exact .inr rfl
  rintro n ⟨hn1, hn2⟩
  simp -implicitDefEqProofs only [qa, qe, qo, qx, qy, qz, qA, qC, qE, qF, qI, qJ, qK, qM, qN, qO, qP, qR, qZ, zb, zj, zt, zJ, zL, zP, List.length_nil, List.length_cons, List.set_cons_zero, zQ, List.getD_eq_getElem?_getD, List.getElem?_cons_zero, ↓reduceIte, Nat.reduceEqDiff, Option.getD_some, zR, arrSz, zT, List.nil_append, List.append_nil, Nat.zero_add, Option.map_some, Option.map_none, slcOk, Option.getD_none, resP, tupV, List.reverse_cons, List.reverse_nil, zZ, leE, leH, leB, keepP, liveP, wfE, wfB, wfV, Bool.and_true, Bool.and_self, true_and, and_true, and_self, V.v.injEq, Value.int.injEq, Value.bool.injEq, List.not_mem_nil, List.length_append, List.length_replicate, not_false_eq_true, Bool.false_eq_true, Nat.reduceLeDiff, Nat.le_refl, jo, ↓jL, ↓jW, ↓jX, ↓qac, ↓qad, ↓qae, ↓qar, ↓qas, ↓qaJ, ↓qaR, Int.toNat_natCast, cx0_fx, retP_isA]
  intro hmx
  simp only [br, decide_eq_true_eq, decide_eq_false_iff_not]
  refine ⟨fun h => ?_, fun h => ?_⟩
  · have h00 : Int.toNat 0 = 0 := rfl
    have e1 : List.take n (List.replicate n (encB true) ++ List.replicate (N - n) (encB false)) = List.replicate n (encB true) := by
      rw [List.take_append_of_le_length (by simp), List.take_of_length_le (by simp)]
    simp only [h00, Nat.sub_zero, List.drop_zero, Nat.zero_add, e1, List.length_replicate]
    refine ⟨⟨⟨by omega, by omega⟩, by omega⟩, ⟨⟨by omega, by omega⟩, by omega, by omega⟩, by omega, .inr trivial, ⟨by simp only [lo]; omega, by simp only [hi]; omega⟩, n + min n (N - n), ⟨⟨by omega, by omega⟩, by omega⟩, by omega, ?_⟩
    have e2 : List.drop (n + min n (N - n)) (List.replicate n (encB true) ++ List.replicate (N - n) (encB false)) = List.replicate (N - (n + min n (N - n))) (encB false) := by
      rw [List.drop_append, List.drop_replicate, List.drop_replicate, List.length_replicate, show n - (n + min n (N - n)) = 0 by omega, show N - n - (n + min n (N - n) - n) = N - (n + min n (N - n)) by omega]
      rfl
    rw [e2, List.take_replicate, rep_app, show min (N - n) n = min n (N - n) by omega]
  · have : N - n = 0 := by omega
    have : n = N := by omega
    subst this
    simp
theorem ok42n : Ok 42 [.bro 4 ([] : List (List V))] (fun r hs => (r = .nil ∧ hs = []) ∨ (r = .sl 0 0 0 ∧ hs = [.arr 4 []])) := by
  refine ok_of lw42 (by simp) ?_
  unfold c42
  simp -implicitDefEqProofs only [qE, qF, qI, qJ, qN, qO, qP, qR, zo, zp, zr, zJ, zL, zM, zP, ofConst, List.length_nil, List.set_cons_zero, zQ, List.getD_eq_getElem?_getD, List.getElem?_cons_zero, ↓reduceIte, Nat.reduceEqDiff, Option.getD_some, zT, ↓zU, ↓zV, List.nil_append, List.append_nil, Nat.add_zero, reduceCtorEq, freshP, litsP, resP, tupV, List.reverse_cons, List.reverse_nil, keepP, liveP, wfV, killE, killB, kill, St.kill, List.map_cons, List.map_nil, List.take_nil, List.drop_nil, Bool.and_self, true_and, and_self, List.mem_cons, List.not_mem_nil, or_false, not_false_eq_true, Bool.false_eq_true, Nat.le_refl, kf, kj, jo, ↓jZ, ↓qak, ↓qan, ↓qao, cx0_bn, cx0_fx, args0, retP_eq]
  refine ⟨fun h => absurd rfl h, fun _ => ⟨⟨[], ⟨by simp [leH], Nat.zero_le _, by simp [wfB]⟩, .inl rfl⟩, .inl trivial, by decide, [.arr 4 []], ⟨by simp [leH, leB], by simp, trivial, by simp [wfB]⟩, .inr rfl⟩⟩
theorem ok42c (a : Arc) (l : List Arc) (h : (a :: l).length ≤ 2048) : Ok 42 [.bro 4 ((a :: l).map Arc.enc)] (IsA (.sl 0 0 (a :: l).length) [.arr 4 ((a :: l).map Arc.enc)]) := by
  refine ok_of lw42 (by simp) ?_
  unfold c42
  simp -implicitDefEqProofs only [qE, qF, qI, qJ, qN, qO, qP, qR, zo, zp, zr, zJ, zL, zM, zP, ofConst, List.length_nil, List.length_cons, List.set_cons_zero, zQ, List.getD_eq_getElem?_getD, List.getElem?_cons_zero, ↓reduceIte, Nat.reduceEqDiff, Option.getD_some, zT, ↓zU, ↓zV, List.nil_append, List.append_nil, Nat.zero_add, Nat.add_zero, reduceCtorEq, freshP, litsP, resP, tupV, List.reverse_cons, List.reverse_nil, leH, leB, keepP, liveP, wfB, wfV, killE, killB, kill, St.kill, List.map_cons, List.map_nil, List.take_nil, List.drop_nil, Bool.and_true, Bool.and_self, true_and, and_true, and_self, List.mem_cons, List.not_mem_nil, or_false, false_or, List.length_map, not_false_eq_true, Bool.false_eq_true, Nat.reduceLeDiff, Nat.le_refl, kf, kj, jo, ↓jZ, ↓qak, ↓qan, ↓qao, List.length_map, cx0_bn, cx0_fx, args0, retP_isA]
  rw [List.length_cons] at h
  exact ⟨fun _ => by omega, fun h => h.elim⟩
/-- A copy of arcs. -/
theorem ok42 (arcs : List Arc) (h : arcs.length ≤ 2048) : Ok 42 [.bro 4 (arcs.map Arc.enc)] (IsA (.sl 0 0 arcs.length) [.arr 4 (arcs.map Arc.enc)]) := by
  cases arcs with
  | cons a l => exact ok42c a l h
  | nil =>
    refine ⟨ok42n.1, Fn_ghost ok42n.2 ?_⟩
    rintro r hs (⟨rfl, rfl⟩ | ⟨rfl, rfl⟩)
    · exact ⟨_, _, ⟨rfl, rfl⟩, _, .virt 1 4 (by decide) (.nilE 0 0 rfl (.refl _)), by simp [leS, leE, get, leH, leB, keepP, wfE, wfV, liveP, wfB]⟩
    · exact ⟨_, _, ⟨rfl, rfl⟩, _, .refl _, by simp [leS, leE, get, leH, leB, keepP, wfE, wfV, liveP, wfB]⟩
end Go.Fx.F
namespace Go.Fx.F
open Go Go.Fx Go.Proofs
set_option maxRecDepth 20000
def encN (i : Nat) : List V := [.i i]
def rows (w : List Nat) : List (List V) := w.map encN
theorem encN_len (x : Nat) : (encN x).length = 1 := rfl
theorem encN_0 (x : Nat) : (encN x)[0]? = some (.i x) := rfl
theorem rows_len {w : List Nat} : (rows w).length = w.length := by simp [rows]
theorem rows_get {w : List Nat} {i : Nat} (h : i < (rows w).length) : (rows w)[i] = encN (w[i]'(by simpa [rows] using h)) := by simp [rows]
def zI : Option Nat → Int
  | some i => i
  | none => -1
theorem ok59 (n : Int) (arcs : List Arc) (rest : List Int) (v : Int) (hl : rest.length = arcs.length) (hb : arcs.length ≤ 4096) : Ok 59 [net n arcs, li rest, .i v] (Is (.i (zI (firstI arcs rest v)))) := by
  refine ok_of lw59 (by simp) ?_
  unfold c59
  simp -implicitDefEqProofs only [qF, qI, qK, qL, qO, qP, qR, qT, zJ, zL, zM, zP, ofConst, cells?, List.length_nil, List.length_cons, List.set_cons_zero, List.getElem?_cons_zero, ↓reduceIte, List.nil_append, List.append_nil, Nat.zero_add, Nat.reduceAdd, Nat.add_zero, freshP, true_and, kf, jo, ↓jp, cx0_fx, args0, net, li]
  refine loopP_intro (fun k : Nat => ⟨[(7, .i k), (3, .ptr 0 0 0), (1, .bro 1 (rest.map encI)), (2, .i v)], [.var [.i n, .bro 4 (arcs.map Arc.enc)]], 0⟩) (fun k => k ≤ arcs.length ∧ ∀ j, j < k → ¬ ((gA arcs j).from_ = v ∧ 0 < rest.getD j 0)) (fun k => arcs.length - k) 0 (by simp) ?_ ?_
  · simp -implicitDefEqProofs only [zP, List.getElem?_cons_zero, ↓reduceIte, Nat.reduceEqDiff, reduceCtorEq, zZ, leE, leH, leB, leV, leVs, keepP, liveP, wfE, wfB, wfV, wfL, Bool.and_self, and_self, leVs, leV, Int.natCast_zero]
  rintro k ⟨hk, hv⟩
  simp -implicitDefEqProofs only [qE, qF, qI, qJ, qK, qM, qN, qO, qP, qQ, qR, qS, qV, qX, qY, qZ, zb, zJ, zL, zM, zP, ofConst, List.length_nil, List.length_cons, zQ, List.getD_eq_getElem?_getD, List.getElem?_cons_zero, ↓reduceIte, Nat.reduceEqDiff, Option.getD_some, zR, zT, Bool.not_true, ↓zU, ↓zV, zW, List.nil_append, List.append_nil, Nat.zero_add, Nat.add_zero, zY, resP, tupV, List.reverse_cons, List.reverse_nil, zZ, leE, leH, leB, leV, leVs, keepP, liveP, wfE, wfB, wfV, wfL, Bool.and_true, Bool.and_self, true_and, and_true, and_self, V.v.injEq, Value.int.injEq, Value.bool.injEq, List.length_map, lg0, jo, ↓jp, ↓jr, ↓jt, ↓ju, ↓jy, ↓jE, ↓jF, ↓jI, ↓jN, ↓qaJ, ↓qaP, ↓qaR, ↓qaT, List.length_map, List.getElem_map, enc_0, encI_0, Int.toNat_natCast]
  simp only [br, decide_eq_true_eq, decide_eq_false_iff_not, beq_iff_eq, beq_eq_false_iff_ne]
  refine fun hm => ⟨fun h => ⟨⟨by omega, h⟩, by omega, ?_⟩, fun h => ?_⟩
  · have hk1 : k < arcs.length := by omega
    have hk2 : k < rest.length := by omega
    have hga : gA arcs k = arcs[k] := getD_nil (a := ⟨0,0,0,0⟩) hk1
    have hgr : rest.getD k 0 = rest[k] := by rw [List.getD_eq_getElem?_getD, List.getElem?_eq_getElem hk2]; rfl
    have no : ¬ ((gA arcs k).from_ = v ∧ 0 < rest.getD k 0) → ∀ j, j < k + 1 → ¬ ((gA arcs j).from_ = v ∧ 0 < rest.getD j 0) := by
      intro h1 j hj
      by_cases e : j = k
      · subst e; exact h1
      · exact hv j (by omega)
    refine ⟨fun he => ⟨⟨by omega, by omega⟩, by omega, fun hp => ?_, fun hp => ⟨by simp only [lo, hi]; omega, k + 1, ⟨⟨by omega, no ?_⟩, by omega⟩, by simp⟩⟩, fun he => ⟨by simp only [lo, hi]; omega, k + 1, ⟨⟨by omega, no ?_⟩, by omega⟩, by simp⟩⟩
    · have : firstI arcs rest v = some k := by
        unfold firstI
        rw [List.find?_range_eq_some]
        refine ⟨by rw [hga, hgr]; simp [he, hp], List.mem_range.2 hk1, fun j hj => ?_⟩
        have := hv j hj
        simp only [Bool.not_eq_true', Bool.and_eq_false_iff, decide_eq_false_iff_not]
        by_cases c : (gA arcs j).from_ = v
        · exact .inr fun h => this ⟨c, h⟩
        · exact .inl c
      rw [this]; rfl
    · rw [hgr]; exact fun h => hp h.2
    · rw [hga]; exact fun h => he h.1
  · have hke : k = arcs.length := by omega
    have : firstI arcs rest v = none := by
      unfold firstI
      rw [List.find?_eq_none]
      intro j hj
      rw [List.mem_range] at hj
      have := hv j (by omega)
      simp only [Bool.and_eq_true, decide_eq_true_eq]
      exact this
    rw [this]; rfl
theorem ok60 (n : Int) (arcs : List Arc) (w : List Nat) (v : Int) (hw : ∀ i ∈ w, i < arcs.length) (hb : arcs.length ≤ 4096) (hn : w.length ≤ 1000) : Ok 60 [net n arcs, .bro 1 (rows w), .i v] (Is (.i (zI (seenI arcs w v)))) := by
  refine ok_of lw60 (by simp) ?_
  unfold c60
  simp -implicitDefEqProofs only [qF, qI, qK, qL, qO, qP, qR, qT, zJ, zL, zM, zP, ofConst, cells?, List.length_nil, List.length_cons, List.set_cons_zero, List.getElem?_cons_zero, ↓reduceIte, List.nil_append, List.append_nil, Nat.zero_add, Nat.reduceAdd, Nat.add_zero, freshP, true_and, kf, jo, ↓jp, cx0_fx, args0, net]
  refine loopP_intro (fun k : Nat => ⟨[(7, .i k), (3, .ptr 0 0 0), (1, .bro 1 (rows w)), (2, .i v)], [.var [.i n, .bro 4 (arcs.map Arc.enc)]], 0⟩) (fun k => k ≤ w.length ∧ ∀ j (hj : j < w.length), j < k → (gA arcs w[j]).from_ ≠ v) (fun k => w.length - k) 0 (by simp) ?_ ?_
  · simp -implicitDefEqProofs only [zP, List.getElem?_cons_zero, ↓reduceIte, Nat.reduceEqDiff, reduceCtorEq, zZ, leE, leH, leB, leV, leVs, keepP, liveP, wfE, wfB, wfV, wfL, Bool.and_self, and_self, leVs, leV, Int.natCast_zero]
  rintro k ⟨hk, hv⟩
  simp -implicitDefEqProofs only [qE, qF, qH, qI, qJ, qK, qM, qN, qO, qP, qR, qV, qX, qY, qZ, zb, zJ, zL, zM, zP, ofConst, List.length_nil, List.length_cons, zQ, List.getD_eq_getElem?_getD, List.getElem?_cons_zero, ↓reduceIte, Nat.reduceEqDiff, Option.getD_some, zR, zT, List.nil_append, List.append_nil, Nat.zero_add, Nat.add_zero, zY, resP, tupV, List.reverse_cons, List.reverse_nil, zZ, leE, leH, leB, leV, leVs, keepP, liveP, wfE, wfB, wfV, wfL, Bool.and_true, Bool.and_self, true_and, and_true, and_self, V.v.injEq, Value.int.injEq, Value.bool.injEq, List.length_map, lg0, jo, ↓jp, ↓jr, ↓jt, ↓ju, ↓jy, ↓jE, ↓jF, ↓jI, ↓jN, ↓qaJ, ↓qaP, ↓qaR, List.length_map, List.getElem_map, enc_0, Int.toNat_natCast, rows_len, rows_get, encN_0]
  simp only [br, decide_eq_true_eq, decide_eq_false_iff_not, beq_iff_eq, beq_eq_false_iff_ne]
  refine fun hm => ⟨fun h => ⟨⟨by omega, h⟩, by omega, ?_⟩, fun h => ?_⟩
  · have hk1 : k < w.length := by omega
    have hwk := hw _ (List.getElem_mem hk1)
    have hga : gA arcs w[k] = arcs[w[k]] := getD_nil (a := ⟨0,0,0,0⟩) hwk
    refine ⟨⟨by omega, by omega⟩, hwk, fun he => ?_, fun he => ⟨by simp only [lo, hi]; omega, k + 1, ⟨⟨by omega, fun j hj hlt => ?_⟩, by omega⟩, by simp⟩⟩
    · have : seenI arcs w v = some k := by
        unfold seenI
        rw [List.findIdx?_eq_some_iff_getElem]
        exact ⟨hk1, by rw [hga]; simpa using he, fun j hj => by simpa using hv j (by omega) hj⟩
      rw [this]; rfl
    · by_cases e : j = k
      · subst e; rw [hga]; exact he
      · exact hv j hj (by omega)
  · have hke : k = w.length := by omega
    have : seenI arcs w v = none := by
      unfold seenI
      rw [List.findIdx?_eq_none_iff]
      intro i hi
      obtain ⟨j, hj, rfl⟩ := List.getElem_of_mem hi
      simpa using hv j hj (by omega)
    rw [this]; rfl
end Go.Fx.F
namespace Go.Fx.F
open Go Go.Fx Go.Proofs
set_option maxRecDepth 20000
theorem lowR_snoc (rest : List Int) (w : List Nat) (m : Int) (i : Nat) : lowR rest (w ++ [i]) m = min (lowR rest w m) (rest.getD i 0) := by simp [lowR, List.foldl_append]
theorem tkAll_snoc (d : Int) (rest : List Int) (w : List Nat) (i : Nat) : tkAll d rest (w ++ [i]) = tk1 d (tkAll d rest w) i := by simp [tkAll, List.foldl_append]
theorem low_in {rest : List Int} (hr : ∀ q, 0 ≤ rest.getD q 0 ∧ rest.getD q 0 ≤ 1073741824) : ∀ (w : List Nat) (m : Int), 0 ≤ m ∧ m ≤ 1073741824 → 0 ≤ lowR rest w m ∧ lowR rest w m ≤ 1073741824
  | [], m, h => h
  | i :: w, m, h => low_in hr w (min m (rest.getD i 0)) (by have := hr i; omega)
def takeH (rest : List Int) : List Blk := [.arr 1 (rest.map encI)]
theorem ok49 (rest : List Int) (w : List Nat) (hr : ∀ q, 0 ≤ rest.getD q 0 ∧ rest.getD q 0 ≤ 1073741824) (hne : w ≠ []) (hnd : w.Nodup) (hw : ∀ i ∈ w, i < rest.length) (hl : rest.length ≤ 4096) (hwl : w.length ≤ 4096) :
    OkN 49 [.sl 0 0 rest.length, .bro 1 (rows w)] (takeH rest) (IsA (.i (tkN rest w)) (takeH (tkR rest w))) := by
  have h0 : 0 < w.length := List.length_pos_iff.2 hne
  have hw0 : w.getD 0 0 = w[0] := by rw [List.getD_eq_getElem?_getD, List.getElem?_eq_getElem h0]; rfl
  have hwr0 := hw _ (List.getElem_mem h0)
  have hg0 : rest.getD w[0] 0 = rest[w[0]] := by rw [List.getD_eq_getElem?_getD, List.getElem?_eq_getElem hwr0]; rfl
  have htn := low_in hr w (rest.getD (w.getD 0 0) 0) (hr _)
  refine okN_of [0] lw49 (by simp) ⟨trivial, trivial⟩ rfl ?_
  have h00 : Int.toNat 0 = 0 := rfl
  unfold c49 takeH
  simp -implicitDefEqProofs only [qF, qI, qK, qL, qO, qP, qR, qV, qY, zb, zJ, zL, zM, zP, ofConst, List.length_nil, List.length_cons, zQ, List.getD_eq_getElem?_getD, List.getElem?_cons_zero, ↓reduceIte, Nat.reduceEqDiff, Option.getD_some, zR, arrSz, List.append_nil, Nat.zero_add, reduceCtorEq, true_and, List.length_map, jo, ↓jp, ↓jr, ↓jt, ↓jv, ↓jy, ↓jG, ↓jI, ↓jN, List.length_map, List.getElem_map, encI_0, Int.toNat_natCast, args0, cxN, rows_len, rows_get, encN_0, h00]
  refine ⟨⟨by omega, by omega⟩, by simpa using h0, ⟨by omega, by omega⟩, by simpa using hwr0, fun hm => ?_⟩
  refine loopP_intro (fun k : Nat => ⟨[(18, .i k), (17, .i w.length), (16, .bro 1 (rows w)), (5, .i (lowR rest (w.take k) rest[w[0]])), (1, .bro 1 (rows w)), (0, .sl 0 0 rest.length)], takeH rest, 0⟩) (fun k => k ≤ w.length) (fun k => w.length - k) 0 (by simp) ?_ ?_
  · unfold takeH
    simp -implicitDefEqProofs only [zP, List.getD_eq_getElem?_getD, List.getElem?_cons_zero, ↓reduceIte, Nat.reduceEqDiff, reduceCtorEq, zZ, leE, leH, leB, keepP, liveP, wfE, wfB, wfV, List.take_zero, Bool.and_self, and_self, Int.natCast_zero, lowR, List.foldl_nil]
    first | done | rfl
  intro k hk
  unfold takeH
  simp -implicitDefEqProofs only [qE, qF, qI, qJ, qK, qL, qM, qO, qP, qR, qV, qY, qZ, zb, zg, zJ, zL, zM, zP, ofConst, List.length_nil, List.length_cons, zQ, List.getD_eq_getElem?_getD, List.getElem?_cons_zero, ↓reduceIte, Nat.reduceEqDiff, Option.getD_some, zR, arrSz, zT, List.append_nil, Nat.zero_add, reduceCtorEq, zZ, leE, leH, leB, keepP, liveP, wfE, wfB, wfV, Bool.and_true, Bool.and_self, true_and, and_true, and_self, V.v.injEq, Value.int.injEq, Value.bool.injEq, List.length_map, Bool.false_eq_true, jo, ↓jp, ↓jr, ↓jt, ↓jv, ↓jy, ↓jG, ↓jI, ↓jN, ↓qaJ, ↓qaR, List.length_map, List.getElem_map, encI_0, Int.toNat_natCast, rows_len, rows_get, encN_0]
  simp only [br, decide_eq_true_eq, decide_eq_false_iff_not]
  refine ⟨fun h => ⟨⟨by omega, h⟩, by omega, ?_⟩, fun h => ?_⟩
  · have hk1 : k < w.length := by omega
    have hwk := hw _ (List.getElem_mem hk1)
    have hgk : rest.getD w[k] 0 = rest[w[k]] := by rw [List.getD_eq_getElem?_getD, List.getElem?_eq_getElem hwk]; rfl
    refine ⟨⟨by omega, by omega⟩, hwk, by simp only [lo, hi]; omega, k + 1, ⟨by omega, by omega⟩, by omega, ?_⟩
    rw [List.take_add_one, List.getElem?_eq_getElem hk1, Option.toList_some, lowR_snoc, hgk]
  · have hke : k = w.length := by omega
    subst hke
    intro _
    rw [List.take_length]
    have hlow : lowR rest w rest[w[0]] = tkN rest w := by unfold tkN; rw [hw0, hg0]
    rw [hlow]
    refine loopP_intro (fun k : Nat => ⟨[(31, .i k), (30, .i w.length), (29, .bro 1 (rows w)), (5, .i (tkN rest w)), (0, .sl 0 0 rest.length)], takeH (tkAll (tkN rest w) rest (w.take k)), 0⟩) (fun k => k ≤ w.length) (fun k => w.length - k) 0 (by simp) ?_ ?_
    · unfold takeH
      simp -implicitDefEqProofs only [zP, List.getElem?_cons_zero, ↓reduceIte, Nat.reduceEqDiff, reduceCtorEq, zZ, leE, leH, leB, keepP, liveP, wfE, wfB, wfV, List.take_zero, Bool.and_self, and_self, Int.natCast_zero, tkAll, List.foldl_nil]
    intro k hk
    unfold takeH
    simp -implicitDefEqProofs only [qE, qF, qI, qJ, qK, qM, qN, qO, qP, qR, qV, qW, qY, qZ, zJ, zK, zL, zM, zP, ofConst, cells?, List.length_nil, List.length_cons, List.set_cons_zero, splice, zQ, List.getD_eq_getElem?_getD, List.getElem?_cons_zero, ↓reduceIte, Nat.reduceEqDiff, Option.getD_some, zR, arrSz, zT, List.nil_append, List.append_nil, Nat.zero_add, reduceCtorEq, resP, tupV, List.reverse_cons, List.reverse_nil, zZ, leE, leH, leB, keepP, liveP, wfE, wfB, wfV, List.take_zero, List.all_cons, List.all_nil, isD, isC, Bool.and_true, Bool.and_self, true_and, and_true, and_self, V.v.injEq, Value.int.injEq, Value.bool.injEq, List.not_mem_nil, List.length_map, not_false_eq_true, Nat.le_refl, jo, ↓jp, ↓jr, ↓jt, ↓jv, ↓jy, ↓jA, ↓jC, ↓jG, ↓jI, ↓qaJ, ↓qaL, ↓qaR, List.length_map, List.getElem_map, encI_0, Int.toNat_natCast, encI_drop, rows_len, rows_get, encN_0, tkAll_len, mapI_set, retP_isA]
    simp only [br, decide_eq_true_eq, decide_eq_false_iff_not]
    refine ⟨fun h => ⟨⟨by omega, h⟩, by omega, ?_⟩, fun h => ?_⟩
    · have hk1 : k < w.length := by omega
      have hwk := hw _ (List.getElem_mem hk1)
      have hgk : (tkAll (tkN rest w) rest (w.take k)).getD w[k] 0 = (tkAll (tkN rest w) rest (w.take k))[w[k]]'(by rw [tkAll_len]; exact hwk) := by rw [List.getD_eq_getElem?_getD, List.getElem?_eq_getElem (by rw [tkAll_len]; exact hwk)]; rfl
      have hbd := tkAll_get (d := tkN rest w) (w := w.take k) (rest := rest) (List.Nodup.sublist (List.take_sublist _ _) hnd) (fun i hi => hw i (List.mem_of_mem_take hi)) w[k]
      rw [hgk] at hbd
      have hrk := hr w[k]
      have htn2 : 0 ≤ tkN rest w ∧ tkN rest w ≤ 1073741824 := htn
      have hbd2 : -1073741824 ≤ (tkAll (tkN rest w) rest (w.take k))[w[k]]'(by rw [tkAll_len]; exact hwk) ∧ (tkAll (tkN rest w) rest (w.take k))[w[k]]'(by rw [tkAll_len]; exact hwk) ≤ 1073741824 := by
        rw [hbd]; split <;> omega
      refine ⟨⟨by omega, by omega⟩, hwk, ⟨by simp only [lo]; omega, by simp only [hi]; omega⟩, ⟨by omega, by omega⟩, hwk, by simp only [lo, hi]; omega, k + 1, ⟨by omega, by omega⟩, by omega, ?_⟩
      rw [List.take_add_one, List.getElem?_eq_getElem hk1, Option.toList_some, tkAll_snoc]
      simp only [tk1, hgk]
    · have hke : k = w.length := by omega
      subst hke
      rw [List.take_length]
      rfl
theorem ok51 (rest : List Int) (w : List Nat) (hr : ∀ q, 0 ≤ rest.getD q 0 ∧ rest.getD q 0 ≤ 1073741824) (hne : w ≠ []) (hnd : w.Nodup) (hw : ∀ i ∈ w, i < rest.length) (hl : rest.length ≤ 4096) (hwl : w.length ≤ 4096) :
    OkN 51 [.sl 0 0 rest.length, .bro 1 (rows w)] (takeH rest) (IsA (.i (tkN rest w)) (takeH (tkR rest w))) := by
  have h0 : 0 < w.length := List.length_pos_iff.2 hne
  have hw0 : w.getD 0 0 = w[0] := by rw [List.getD_eq_getElem?_getD, List.getElem?_eq_getElem h0]; rfl
  have hwr0 := hw _ (List.getElem_mem h0)
  have hg0 : rest.getD w[0] 0 = rest[w[0]] := by rw [List.getD_eq_getElem?_getD, List.getElem?_eq_getElem hwr0]; rfl
  have htn := low_in hr w (rest.getD (w.getD 0 0) 0) (hr _)
  refine okN_of [0] lw51 (by simp) ⟨trivial, trivial⟩ rfl ?_
  have h00 : Int.toNat 0 = 0 := rfl
  unfold c51 takeH
  simp -implicitDefEqProofs only [qF, qI, qK, qL, qO, qP, qR, qV, qY, zJ, zL, zM, zP, ofConst, List.length_nil, List.length_cons, zQ, List.getD_eq_getElem?_getD, List.getElem?_cons_zero, ↓reduceIte, Nat.reduceEqDiff, Option.getD_some, zR, arrSz, List.append_nil, Nat.zero_add, reduceCtorEq, true_and, List.length_map, jo, ↓jp, ↓jr, ↓jt, ↓jv, ↓jy, ↓jG, ↓jI, List.length_map, List.getElem_map, encI_0, Int.toNat_natCast, args0, cxN, rows_len, rows_get, encN_0, h00]
  refine ⟨⟨by omega, by omega⟩, by simpa using h0, ⟨by omega, by omega⟩, by simpa using hwr0, ?_⟩
  refine loopP_intro (fun k : Nat => ⟨[(6, .i k), (5, .i (lowR rest (w.take k) rest[w[0]])), (1, .bro 1 (rows w)), (0, .sl 0 0 rest.length)], takeH rest, 0⟩) (fun k => k ≤ w.length) (fun k => w.length - k) 0 (by simp) ?_ ?_
  · unfold takeH
    simp -implicitDefEqProofs only [zP, List.getD_eq_getElem?_getD, List.getElem?_cons_zero, ↓reduceIte, Nat.reduceEqDiff, reduceCtorEq, zZ, leE, leH, leB, keepP, liveP, wfE, wfB, wfV, List.take_zero, Bool.and_self, and_self, Int.natCast_zero, lowR, List.foldl_nil]
    first | done | rfl
  intro k hk
  unfold takeH
  simp -implicitDefEqProofs only [qE, qF, qI, qJ, qK, qL, qM, qO, qP, qR, qV, qY, qZ, zb, zg, zJ, zL, zM, zP, ofConst, List.length_nil, List.length_cons, zQ, List.getD_eq_getElem?_getD, List.getElem?_cons_zero, ↓reduceIte, Nat.reduceEqDiff, Option.getD_some, zR, arrSz, zT, List.append_nil, Nat.zero_add, reduceCtorEq, zZ, leE, leH, leB, keepP, liveP, wfE, wfB, wfV, Bool.and_true, Bool.and_self, true_and, and_true, and_self, V.v.injEq, Value.int.injEq, Value.bool.injEq, List.length_map, Bool.false_eq_true, jo, ↓jp, ↓jr, ↓jt, ↓jv, ↓jy, ↓jG, ↓jI, ↓jN, ↓qaJ, ↓qaR, List.length_map, List.getElem_map, encI_0, Int.toNat_natCast, rows_len, rows_get, encN_0]
  simp only [br, decide_eq_true_eq, decide_eq_false_iff_not]
  refine fun hm => ⟨fun h => ⟨⟨by omega, h⟩, by omega, ?_⟩, fun h => ?_⟩
  · have hk1 : k < w.length := by omega
    have hwk := hw _ (List.getElem_mem hk1)
    have hgk : rest.getD w[k] 0 = rest[w[k]] := by rw [List.getD_eq_getElem?_getD, List.getElem?_eq_getElem hwk]; rfl
    refine ⟨⟨by omega, by omega⟩, hwk, by simp only [lo, hi]; omega, k + 1, ⟨by omega, by omega⟩, by omega, ?_⟩
    rw [List.take_add_one, List.getElem?_eq_getElem hk1, Option.toList_some, lowR_snoc, hgk]
  · have hke : k = w.length := by omega
    subst hke
    rw [List.take_length]
    have hlow : lowR rest w rest[w[0]] = tkN rest w := by unfold tkN; rw [hw0, hg0]
    rw [hlow]
    refine loopP_intro (fun k : Nat => ⟨[(7, .i k), (5, .i (tkN rest w)), (1, .bro 1 (rows w)), (0, .sl 0 0 rest.length)], takeH (tkAll (tkN rest w) rest (w.take k)), 0⟩) (fun k => k ≤ w.length) (fun k => w.length - k) 0 (by simp) ?_ ?_
    · unfold takeH
      simp -implicitDefEqProofs only [zP, List.getElem?_cons_zero, ↓reduceIte, Nat.reduceEqDiff, reduceCtorEq, zZ, leE, leH, leB, keepP, liveP, wfE, wfB, wfV, List.take_zero, Bool.and_self, and_self, Int.natCast_zero, tkAll, List.foldl_nil]
    intro k hk
    unfold takeH
    simp -implicitDefEqProofs only [qE, qF, qG, qI, qJ, qK, qM, qN, qO, qP, qR, qV, qW, qY, qZ, zb, zJ, zK, zL, zM, zP, ofConst, cells?, List.length_nil, List.length_cons, List.set_cons_zero, splice, zQ, List.getD_eq_getElem?_getD, List.getElem?_cons_zero, ↓reduceIte, Nat.reduceEqDiff, Option.getD_some, zR, arrSz, zT, List.nil_append, List.append_nil, Nat.zero_add, reduceCtorEq, resP, tupV, List.reverse_cons, List.reverse_nil, zZ, leE, leH, leB, keepP, liveP, wfE, wfB, wfV, List.take_zero, List.all_cons, List.all_nil, isD, isC, Bool.and_true, Bool.and_self, true_and, and_true, and_self, V.v.injEq, Value.int.injEq, Value.bool.injEq, List.not_mem_nil, List.length_map, not_false_eq_true, Nat.le_refl, jo, ↓jp, ↓jr, ↓jt, ↓jv, ↓jy, ↓jA, ↓jC, ↓jG, ↓jI, ↓jN, ↓qaJ, ↓qaL, ↓qaR, List.length_map, List.getElem_map, encI_0, Int.toNat_natCast, encI_drop, rows_len, rows_get, encN_0, tkAll_len, mapI_set, retP_isA]
    simp only [br, decide_eq_true_eq, decide_eq_false_iff_not]
    refine fun hm2 => ⟨fun h => ⟨⟨by omega, h⟩, by omega, ?_⟩, fun h => ?_⟩
    · have hk1 : k < w.length := by omega
      have hwk := hw _ (List.getElem_mem hk1)
      have hgk : (tkAll (tkN rest w) rest (w.take k)).getD w[k] 0 = (tkAll (tkN rest w) rest (w.take k))[w[k]]'(by rw [tkAll_len]; exact hwk) := by rw [List.getD_eq_getElem?_getD, List.getElem?_eq_getElem (by rw [tkAll_len]; exact hwk)]; rfl
      have hbd := tkAll_get (d := tkN rest w) (w := w.take k) (rest := rest) (List.Nodup.sublist (List.take_sublist _ _) hnd) (fun i hi => hw i (List.mem_of_mem_take hi)) w[k]
      rw [hgk] at hbd
      have hrk := hr w[k]
      have htn2 : 0 ≤ tkN rest w ∧ tkN rest w ≤ 1073741824 := htn
      have hbd2 : -1073741824 ≤ (tkAll (tkN rest w) rest (w.take k))[w[k]]'(by rw [tkAll_len]; exact hwk) ∧ (tkAll (tkN rest w) rest (w.take k))[w[k]]'(by rw [tkAll_len]; exact hwk) ≤ 1073741824 := by
        rw [hbd]; split <;> omega
      refine ⟨⟨by omega, by omega⟩, hk1, ⟨by omega, by omega⟩, hwk, ⟨by simp only [lo]; omega, by simp only [hi]; omega⟩, ⟨by omega, by omega⟩, hwk, by simp only [lo, hi]; omega, k + 1, ⟨by omega, by omega⟩, by omega, ?_⟩
      rw [List.take_add_one, List.getElem?_eq_getElem hk1, Option.toList_some, tkAll_snoc]
      simp only [tk1, hgk]
    · have hke : k = w.length := by omega
      subst hke
      rw [List.take_length]
      rfl
end Go.Fx.F
namespace Go.Fx.F
open Go Go.Fx Go.Proofs
set_option maxRecDepth 20000
theorem ok45n : Ok 45 [.bro 1 ([] : List (List V))] (fun r hs => (r = .nil ∧ hs = []) ∨ (r = .sl 0 0 0 ∧ hs = [.arr 1 []])) := by
  refine ok_of lw45 (by simp) ?_
  unfold c45
  simp -implicitDefEqProofs only [qE, qF, qI, qJ, qN, qO, qP, qR, zo, zp, zr, zJ, zL, zM, zP, ofConst, List.length_nil, List.set_cons_zero, zQ, List.getD_eq_getElem?_getD, List.getElem?_cons_zero, ↓reduceIte, Nat.reduceEqDiff, Option.getD_some, zT, ↓zU, ↓zV, List.nil_append, List.append_nil, Nat.add_zero, reduceCtorEq, freshP, litsP, resP, tupV, List.reverse_cons, List.reverse_nil, keepP, liveP, wfV, killE, killB, kill, St.kill, List.map_cons, List.map_nil, List.take_nil, List.drop_nil, Bool.and_self, true_and, and_self, List.mem_cons, List.not_mem_nil, or_false, not_false_eq_true, Bool.false_eq_true, Nat.le_refl, kf, kj, jo, ↓jZ, ↓qak, ↓qan, ↓qao, cx0_bn, cx0_fx, args0, retP_eq]
  refine ⟨fun h => absurd rfl h, fun _ => ⟨⟨[], ⟨by simp [leH], Nat.zero_le _, by simp [wfB]⟩, .inl rfl⟩, .inl trivial, by decide, [.arr 1 []], ⟨by simp [leH, leB], by simp, trivial, by simp [wfB]⟩, .inr rfl⟩⟩
theorem ok45c (a : Int) (l : List Int) (h : (a :: l).length ≤ 4096) : Ok 45 [.bro 1 ((a :: l).map encI)] (IsA (.sl 0 0 (a :: l).length) [.arr 1 ((a :: l).map encI)]) := by
  refine ok_of lw45 (by simp) ?_
  unfold c45
  simp -implicitDefEqProofs only [qE, qF, qI, qJ, qN, qO, qP, qR, zo, zp, zr, zJ, zL, zM, zP, ofConst, List.length_nil, List.length_cons, List.set_cons_zero, zQ, List.getD_eq_getElem?_getD, List.getElem?_cons_zero, ↓reduceIte, Nat.reduceEqDiff, Option.getD_some, zT, ↓zU, ↓zV, List.nil_append, List.append_nil, Nat.zero_add, Nat.add_zero, reduceCtorEq, freshP, litsP, resP, tupV, List.reverse_cons, List.reverse_nil, leH, leB, keepP, liveP, wfB, wfV, killE, killB, kill, St.kill, List.map_cons, List.map_nil, List.take_nil, List.drop_nil, Bool.and_true, Bool.and_self, true_and, and_true, and_self, List.mem_cons, List.not_mem_nil, or_false, false_or, List.length_map, not_false_eq_true, Bool.false_eq_true, Nat.reduceLeDiff, Nat.le_refl, kf, kj, jo, ↓jZ, ↓qak, ↓qan, ↓qao, List.length_map, cx0_bn, cx0_fx, args0, retP_isA]
  rw [List.length_cons] at h
  exact ⟨fun _ => by omega, fun h => h.elim⟩
theorem ok45 (l : List Int) (h : l.length ≤ 4096) : Ok 45 [.bro 1 (l.map encI)] (IsA (.sl 0 0 l.length) [.arr 1 (l.map encI)]) := by
  cases l with
  | cons a l => exact ok45c a l h
  | nil =>
    refine ⟨ok45n.1, Fn_ghost ok45n.2 ?_⟩
    rintro r hs (⟨rfl, rfl⟩ | ⟨rfl, rfl⟩)
    · exact ⟨_, _, ⟨rfl, rfl⟩, _, .virt 1 1 (by decide) (.nilE 0 0 rfl (.refl _)), by simp [leS, leE, get, leH, leB, keepP, wfE, wfV, liveP, wfB]⟩
    · exact ⟨_, _, ⟨rfl, rfl⟩, _, .refl _, by simp [leS, leE, get, leH, leB, keepP, wfE, wfV, liveP, wfB]⟩
/-- The rest, where it lies. -/
def restH2 (rest : List Int) : List Blk := [.var [.sl 1 0 rest.length], .arr 1 (rest.map encI)]
theorem ok47 (i : Nat) (rest : List Int) (hi : i < rest.length) : OkN 47 [.i i, .ptr 0 0 0] (restH2 rest) (IsA (.b (decide (0 < rest.getD i 0))) (restH2 rest)) := by
  have hg : rest.getD i 0 = rest[i] := by rw [List.getD_eq_getElem?_getD, List.getElem?_eq_getElem hi]; rfl
  refine okN_of [0, 1] lw47 (by simp) ⟨trivial, trivial, trivial⟩ rfl ?_
  rw [hg]
  unfold c47 restH2
  simp -implicitDefEqProofs only [qF, qI, qN, qO, qP, qR, qV, qY, qZ, zJ, zL, zM, zP, ofConst, List.length_nil, List.length_cons, zQ, List.getD_eq_getElem?_getD, List.getElem?_cons_zero, ↓reduceIte, Nat.reduceEqDiff, Option.getD_some, zR, arrSz, List.nil_append, List.append_nil, Nat.zero_add, Nat.reduceAdd, reduceCtorEq, resP, tupV, List.reverse_cons, List.reverse_nil, leH, leB, leV, leVs, keepP, liveP, wfB, wfV, wfL, Bool.and_self, true_and, and_self, V.v.injEq, Value.int.injEq, Value.bool.injEq, List.length_map, Nat.le_refl, lg0, jo, ↓jp, ↓jr, ↓ju, ↓jv, ↓jy, ↓jG, ↓qaT, List.length_map, List.getElem_map, encI_0, Int.toNat_natCast, args0, cxN, retP_isA]
  exact ⟨⟨by omega, by omega⟩, hi, trivial⟩
def atH (N : Nat) (arcs : List Arc) (at_ : Int) : List Blk := [.var [.i N, .ro 4 (arcs.map Arc.enc)], .var [.i at_]]
theorem ok48 (N i : Nat) (arcs : List Arc) (at_ : Int) (hi : i < arcs.length) : OkN 48 [.i i, .ptr 0 0 0, .ptr 1 0 0] (atH N arcs at_) (IsA (.b (decide ((gA arcs i).from_ = at_))) (atH N arcs at_)) := by
  refine okN_of [0, 1] lw48 (by simp) ⟨trivial, trivial, trivial⟩ rfl ?_
  rw [getD_nil (a := ⟨0,0,0,0⟩) hi]
  unfold c48 atH
  simp -implicitDefEqProofs only [qF, qH, qI, qN, qO, qP, qR, qV, qX, qY, qZ, zJ, zL, zM, zP, ofConst, List.length_nil, List.length_cons, zQ, List.getD_eq_getElem?_getD, List.getElem?_cons_zero, ↓reduceIte, Nat.reduceEqDiff, Option.getD_some, zR, List.nil_append, List.append_nil, Nat.zero_add, Nat.reduceAdd, Nat.add_zero, reduceCtorEq, resP, tupV, List.reverse_cons, List.reverse_nil, leH, leB, leV, leVs, keepP, liveP, wfB, wfV, wfL, Bool.and_self, true_and, and_self, V.v.injEq, Value.int.injEq, Value.bool.injEq, List.length_map, Nat.le_refl, lg0, jo, ↓jp, ↓jr, ↓jt, ↓ju, ↓jy, ↓jE, ↓jF, ↓jH, ↓qaP, List.length_map, List.getElem_map, enc_0, Int.toNat_natCast, args0, cxN, retP_isA]
  exact ⟨⟨by omega, by omega⟩, hi, rfl⟩
def noP (p : Nat → Bool) (l : List Nat) (k : Nat) : Prop := ∀ j (hj : j < l.length), j < k → p l[j] = false
theorem noP_0 {p : Nat → Bool} {l : List Nat} : noP p l 0 := fun j hj h => by omega
theorem idx_stop {p : Nat → Bool} {l : List Nat} {k : Nat} (hk : k < l.length) (h1 : p l[k] = true) (h2 : noP p l k) : l.findIdx? p = some k := by
  rw [List.findIdx?_eq_some_iff_getElem]
  exact ⟨hk, h1, fun j hj => by rw [h2 j (by omega) hj]; simp⟩
theorem idx_none {p : Nat → Bool} {l : List Nat} (h2 : noP p l l.length) : l.findIdx? p = none := by
  rw [List.findIdx?_eq_none_iff]
  intro i hi
  obtain ⟨j, hj, rfl⟩ := List.getElem_of_mem hi
  exact h2 j hj hj
theorem no_more {p : Nat → Bool} {l : List Nat} {k : Nat} (hk : k < l.length) (h1 : p l[k] = false) (h2 : noP p l k) : noP p l (k + 1) := by
  intro j hj hlt
  by_cases e : j = k
  · subst e; exact h1
  · exact h2 j hj (by omega)
def posI (rest : List Int) (l : List Nat) : Option Nat := l.findIdx? fun i => decide (0 < rest.getD i 0)
theorem ok46a (l : List Nat) (rest : List Int) (hl : ∀ i ∈ l, i < rest.length) (hn : l.length ≤ 4096) : OkN 46 [.bro 1 (rows l), .clo 47 [.ptr 0 0 0]] (restH2 rest) (IsA (.i (zI (posI rest l))) (restH2 rest)) := by
  refine okN_of [0, 1] lw46 (by simp) ⟨trivial, trivial, trivial⟩ rfl ?_
  unfold c46 restH2
  simp -implicitDefEqProofs only [qF, qI, qK, qL, qO, qP, qR, zb, zJ, zL, zM, zP, ofConst, List.length_nil, List.length_cons, ↓reduceIte, List.append_nil, Nat.zero_add, Nat.reduceAdd, reduceCtorEq, jo, ↓jN, args0, cxN, rows_len]
  intro hm
  refine loopP_intro (fun k : Nat => ⟨[(8, .i k), (7, .i l.length), (1, .clo 47 [.ptr 0 0 0]), (0, .bro 1 (rows l))], restH2 rest, 0⟩) (fun k => k ≤ l.length ∧ noP (fun i => decide (0 < rest.getD i 0)) l k) (fun k => l.length - k) 0 ⟨Nat.zero_le _, noP_0⟩ ?_ ?_
  · unfold restH2
    simp -implicitDefEqProofs only [zP, List.getElem?_cons_zero, ↓reduceIte, Nat.reduceEqDiff, reduceCtorEq, zZ, leE, leH, leB, leV, leVs, keepP, liveP, wfE, wfB, wfV, wfL, Bool.and_self, and_self, lg0, leVs, leV, Int.natCast_zero]
  rintro k ⟨hk, hv⟩
  unfold restH2
  simp -implicitDefEqProofs only [qE, qF, qI, qJ, qK, qM, qN, qO, qP, qR, qV, qY, qZ, zG, zJ, zL, zM, zP, ofConst, List.length_nil, List.length_cons, List.getD_eq_getElem?_getD, List.getElem?_cons_zero, ↓reduceIte, Nat.reduceEqDiff, zR, zT, List.nil_append, List.cons_append, List.append_nil, Nat.zero_add, Nat.reduceAdd, reduceCtorEq, resP, tupV, List.reverse_cons, List.reverse_nil, leH, leB, leV, leVs, keepP, liveP, wfB, wfV, wfL, List.map_cons, List.map_nil, Bool.and_self, true_and, and_self, V.v.injEq, Value.int.injEq, Value.bool.injEq, Nat.le_refl, lg0, jo, ↓jp, ↓jt, ↓jy, ↓jI, ↓jU, ↓qaR, Int.toNat_natCast, rows_len, rows_get, encN_0, retP_isA]
  simp only [br, decide_eq_true_eq, decide_eq_false_iff_not]
  refine ⟨fun h => ⟨⟨by omega, h⟩, by omega, ?_⟩, fun h => ?_⟩
  · have hk1 : k < l.length := by omega
    refine call_isN [0, 1] [.i l[k], .ptr 0 0 0] (.b (decide (0 < rest.getD l[k] 0))) (.b (decide (0 < rest.getD l[k] 0))) (restH2 rest) (restH2 rest) (restH2 rest) (ok47 l[k] rest (hl _ (List.getElem_mem hk1))) (by simp) rfl (by simp [lendsOk, lendOk, lends, lend, wkL, wk, pos]) (by simp [restH2]) rfl rfl ⟨trivial, trivial, trivial⟩ ?_
    unfold restH2
    cases hp : decide (0 < rest.getD l[k] 0) with
    | true =>
      simp -implicitDefEqProofs only [qF, qI, qJ, qN, qO, qP, qR, zJ, zL, zP, List.length_nil, List.length_cons, List.getElem?_cons_zero, ↓reduceIte, Nat.reduceEqDiff, zT, ↓zU, List.nil_append, List.append_nil, Nat.zero_add, Nat.reduceAdd, resP, tupV, List.reverse_cons, List.reverse_nil, leH, leB, leV, leVs, keepP, liveP, wfB, wfV, wfL, Bool.and_self, true_and, and_self, V.v.injEq, Value.int.injEq, Value.bool.injEq, Nat.le_refl, lg0, jo, retP_isA, leVs, leV]
      rw [show posI rest l = some k from idx_stop hk1 hp hv]; rfl
    | false =>
      simp -implicitDefEqProofs only [qE, qF, qJ, qO, qP, qR, qZ, zJ, zL, zM, zP, ofConst, List.length_nil, List.length_cons, List.getElem?_cons_zero, ↓reduceIte, Nat.reduceEqDiff, zR, zT, ↓zV, List.append_nil, Nat.zero_add, Nat.reduceAdd, reduceCtorEq, zZ, leE, leH, leB, leV, leVs, keepP, liveP, wfE, wfB, wfV, wfL, Bool.and_true, Bool.and_self, true_and, and_true, and_self, V.v.injEq, Value.int.injEq, Value.bool.injEq, lg0, jo, ↓qaJ, leVs, leV]
      exact ⟨by simp only [lo, hi]; omega, k + 1, ⟨⟨by omega, no_more (p := fun i => decide (0 < rest.getD i 0)) hk1 hp hv⟩, by omega⟩, by simp⟩
  · have hke : k = l.length := by omega
    subst hke
    rw [show posI rest l = none from idx_none (p := fun i => decide (0 < rest.getD i 0)) hv]; rfl
theorem ok46b (N : Nat) (w : List Nat) (arcs : List Arc) (at_ : Int) (hl : ∀ i ∈ w, i < arcs.length) (hn : w.length ≤ 4096) : OkN 46 [.bro 1 (rows w), .clo 48 [.ptr 0 0 0, .ptr 1 0 0]] (atH N arcs at_) (IsA (.i (zI (seenI arcs w at_))) (atH N arcs at_)) := by
  refine okN_of [0, 1] lw46 (by simp) ⟨trivial, trivial, trivial⟩ rfl ?_
  unfold c46 atH
  simp -implicitDefEqProofs only [qF, qI, qK, qL, qO, qP, qR, zb, zJ, zL, zM, zP, ofConst, List.length_nil, List.length_cons, ↓reduceIte, List.append_nil, Nat.zero_add, Nat.reduceAdd, reduceCtorEq, jo, ↓jN, args0, cxN, rows_len]
  intro hm
  refine loopP_intro (fun k : Nat => ⟨[(8, .i k), (7, .i w.length), (1, .clo 48 [.ptr 0 0 0, .ptr 1 0 0]), (0, .bro 1 (rows w))], atH N arcs at_, 0⟩) (fun k => k ≤ w.length ∧ noP (fun i => decide ((gA arcs i).from_ = at_)) w k) (fun k => w.length - k) 0 ⟨Nat.zero_le _, noP_0⟩ ?_ ?_
  · unfold atH
    simp -implicitDefEqProofs only [zP, List.getElem?_cons_zero, ↓reduceIte, Nat.reduceEqDiff, reduceCtorEq, zZ, leE, leH, leB, leV, leVs, keepP, liveP, wfE, wfB, wfV, wfL, Bool.and_self, and_self, lg0, leVs, leV, Int.natCast_zero]
  rintro k ⟨hk, hv⟩
  unfold atH
  simp -implicitDefEqProofs only [qE, qF, qI, qJ, qK, qM, qN, qO, qP, qR, qV, qY, qZ, zG, zJ, zL, zM, zP, ofConst, List.length_nil, List.length_cons, List.getElem?_cons_zero, ↓reduceIte, Nat.reduceEqDiff, zR, zT, List.nil_append, List.cons_append, List.append_nil, Nat.zero_add, Nat.reduceAdd, reduceCtorEq, resP, tupV, List.reverse_cons, List.reverse_nil, leH, leB, leV, leVs, keepP, liveP, wfB, wfV, wfL, List.map_cons, List.map_nil, Bool.and_self, true_and, and_self, V.v.injEq, Value.int.injEq, Value.bool.injEq, Nat.le_refl, lg0, jo, ↓jp, ↓jt, ↓jy, ↓jI, ↓jU, ↓qaR, Int.toNat_natCast, rows_len, rows_get, encN_0, retP_isA]
  simp only [br, decide_eq_true_eq, decide_eq_false_iff_not]
  refine ⟨fun h => ⟨⟨by omega, h⟩, by omega, ?_⟩, fun h => ?_⟩
  · have hk1 : k < w.length := by omega
    refine call_isN [0, 1] [.i w[k], .ptr 0 0 0, .ptr 1 0 0] (.b (decide ((gA arcs w[k]).from_ = at_))) (.b (decide ((gA arcs w[k]).from_ = at_))) (atH N arcs at_) (atH N arcs at_) (atH N arcs at_) (ok48 N w[k] arcs at_ (hl _ (List.getElem_mem hk1))) (by simp) rfl (by simp [lendsOk, lendOk, lends, lend, wkL, wk, pos]) (by simp [atH]) ?_ rfl ⟨trivial, trivial, trivial⟩ ?_
    · simp [atH, setAll, renB, rens, ren, back]
    unfold atH
    cases hp : decide ((gA arcs w[k]).from_ = at_) with
    | true =>
      simp -implicitDefEqProofs only [qF, qI, qJ, qN, qO, qP, qR, zJ, zL, zP, List.length_nil, List.length_cons, List.getElem?_cons_zero, ↓reduceIte, Nat.reduceEqDiff, zT, ↓zU, List.nil_append, List.append_nil, Nat.zero_add, Nat.reduceAdd, resP, tupV, List.reverse_cons, List.reverse_nil, leH, leB, leV, leVs, keepP, liveP, wfB, wfV, wfL, Bool.and_self, true_and, and_self, V.v.injEq, Value.int.injEq, Value.bool.injEq, Nat.le_refl, lg0, jo, retP_isA, leVs, leV]
      rw [show seenI arcs w at_ = some k from idx_stop hk1 hp hv]; rfl
    | false =>
      simp -implicitDefEqProofs only [qE, qF, qJ, qO, qP, qR, qZ, zJ, zL, zM, zP, ofConst, List.length_nil, List.length_cons, List.getElem?_cons_zero, ↓reduceIte, Nat.reduceEqDiff, zR, zT, ↓zV, List.append_nil, Nat.zero_add, Nat.reduceAdd, reduceCtorEq, zZ, leE, leH, leB, leV, leVs, keepP, liveP, wfE, wfB, wfV, wfL, Bool.and_true, Bool.and_self, true_and, and_true, and_self, V.v.injEq, Value.int.injEq, Value.bool.injEq, lg0, jo, ↓qaJ, leVs, leV]
      exact ⟨by simp only [lo, hi]; omega, k + 1, ⟨⟨by omega, no_more (p := fun i => decide ((gA arcs i).from_ = at_)) hk1 hp hv⟩, by omega⟩, by simp⟩
  · have hke : k = w.length := by omega
    subst hke
    rw [show seenI arcs w at_ = none from idx_none (p := fun i => decide ((gA arcs i).from_ = at_)) hv]; rfl
end Go.Fx.F
namespace Go.Fx.F
open Go Go.Fx Go.Proofs
set_option maxRecDepth 20000
theorem get4 {α : Type} {a b c d : α} {l : List α} {q : Nat} : (a :: b :: c :: d :: l)[q + 4]? = l[q]? := rfl
theorem set4 {α : Type} {a b c d x : α} {l : List α} {q : Nat} : (a :: b :: c :: d :: l).set (q + 4) x = a :: b :: c :: d :: l.set q x := rfl
def fromN (arcs : List Arc) (v : Int) (k : Nat) : List Nat := (List.range k).filter fun i => decide ((gA arcs i).from_ = v)
theorem fromN_yes {R : List Arc} {v : Int} {k : Nat} (h : (gA R k).from_ = v) : fromN R v (k + 1) = fromN R v k ++ [k] := by
  simp [fromN, List.range_succ, List.filter_append, h]
theorem fromN_no {R : List Arc} {v : Int} {k : Nat} (h : (gA R k).from_ ≠ v) : fromN R v (k + 1) = fromN R v k := by
  simp [fromN, List.range_succ, List.filter_append, h]
theorem fromN_len {R : List Arc} {v : Int} {k : Nat} : (fromN R v k).length ≤ k := by
  have := List.length_filter_le (fun i => decide ((gA R i).from_ = v)) (List.range k)
  rwa [List.length_range] at this
theorem fromN_lt {R : List Arc} {v : Int} {k i : Nat} (h : i ∈ fromN R v k) : i < k := by
  unfold fromN at h
  rw [List.mem_filter, List.mem_range] at h
  exact h.1
/-- The cells and the rows of 'begin', a row for each node. -/
def begS (arcs : List Arc) (N k : Nat) : List (List V) := (List.range N).map fun (v : Nat) => [.sl (v + 4) 0 (fromN arcs v k).length]
def begB (arcs : List Arc) (N k : Nat) : List Blk := (List.range N).map fun (v : Nat) => .arr 1 (rows (fromN arcs v k))
theorem begS_len {arcs : List Arc} {N k : Nat} : (begS arcs N k).length = N := by simp [begS]
theorem begB_len {arcs : List Arc} {N k : Nat} : (begB arcs N k).length = N := by simp [begB]
theorem begS_get {arcs : List Arc} {N k v : Nat} (h : v < (begS arcs N k).length) : (begS arcs N k)[v] = [.sl (v + 4) 0 (fromN arcs v k).length] := by simp [begS]
theorem begB_in {arcs : List Arc} {N k v : Nat} {l : List Blk} (h : v < N) : (begB arcs N k ++ l)[v]? = some (.arr 1 (rows (fromN arcs v k))) := by
  rw [List.getElem?_append_left (by rw [begB_len]; exact h)]
  simp [begB, h]
theorem begB_out {arcs : List Arc} {N k q : Nat} {l : List Blk} : (begB arcs N k ++ l)[N + q]? = l[q]? := by
  rw [List.getElem?_append_right (by rw [begB_len]; omega), begB_len]; congr 1; omega
theorem begB_out0 {arcs : List Arc} {N k : Nat} {l : List Blk} : (begB arcs N k ++ l)[N]? = l[0]? := begB_out (q := 0)
theorem begB_set {arcs : List Arc} {N k q : Nat} {l : List Blk} {x : Blk} : (begB arcs N k ++ l).set (N + q) x = begB arcs N k ++ l.set q x := by
  rw [List.set_append_right _ _ (by rw [begB_len]; omega), begB_len]; congr 2; omega
theorem begB_set0 {arcs : List Arc} {N k : Nat} {l : List Blk} {x : Blk} : (begB arcs N k ++ l).set N x = begB arcs N k ++ l.set 0 x := begB_set (q := 0)
theorem begB_put {arcs : List Arc} {N k v : Nat} {l : List Blk} {x : Blk} (h : v < N) : (begB arcs N k ++ l).set v x = (begB arcs N k).set v x ++ l := by
  rw [List.set_append_left _ _ (by rw [begB_len]; exact h)]
theorem begB_kill {arcs : List Arc} {N k : Nat} {M : List Nat} : (begB arcs N k).map (killB M) = begB arcs N k := by
  unfold begB
  rw [List.map_map]
  rfl
theorem begS_next {arcs : List Arc} {N k v : Nat} (hv : v < N) (hf : (gA arcs k).from_ = v) : ((begS arcs N k).map (kills [v + 4])).set v [.sl (v + 4) 0 ((fromN arcs v k).length + 1)] = begS arcs N (k + 1) := by
  apply List.ext_getElem
  · simp [begS]
  · intro q h1 h2
    have hq : q < N := by simpa [begS] using h2
    rw [List.getElem_set, begS_get]
    by_cases e : v = q
    · subst e
      rw [if_pos rfl, fromN_yes hf, List.length_append]; rfl
    · rw [if_neg e, List.getElem_map, begS_get, fromN_no (by rw [hf]; omega)]
      have : ¬ (q + 4 = v + 4) := by omega
      simp [kills, kill, this]
      omega
theorem begB_next {arcs : List Arc} {N k v : Nat} (hv : v < N) (hf : (gA arcs k).from_ = v) : (begB arcs N k).set v (.arr 1 (rows (fromN arcs v k) ++ [encN k])) = begB arcs N (k + 1) := by
  apply List.ext_getElem
  · simp [begB]
  · intro q h1 h2
    have hq : q < N := by simpa [begB] using h2
    rw [List.getElem_set]
    simp only [begB, List.getElem_map, List.getElem_range]
    by_cases e : v = q
    · subst e
      rw [if_pos rfl, fromN_yes hf]
      simp [rows]
    · rw [if_neg e, fromN_no (by rw [hf]; omega)]
theorem begB_wf {arcs : List Arc} {N k : Nat} {q : List Blk} : wfB q (begB arcs N k) := by
  have : ∀ l : List Blk, (∀ b ∈ l, ∃ els, b = .arr 1 els) → wfB q l := by
    intro l
    induction l with
    | nil => intro _; trivial
    | cons b r ih =>
      intro h
      obtain ⟨els, rfl⟩ := h b List.mem_cons_self
      exact ih fun b hb => h b (List.mem_cons_of_mem _ hb)
  refine this _ fun b hb => ?_
  unfold begB at hb
  rw [List.mem_map] at hb
  obtain ⟨v, _, rfl⟩ := hb
  exact ⟨_, rfl⟩
theorem begS_wf {arcs : List Arc} {N k : Nat} {a b c d : Blk} : wfL (a :: b :: c :: d :: begB arcs N k) (begS arcs N k).flatten := by
  refine wfL_all fun x hx => ?_
  rw [List.mem_flatten] at hx
  obtain ⟨l, h1, h2⟩ := hx
  unfold begS at h1
  rw [List.mem_map] at h1
  obtain ⟨v, hv, rfl⟩ := h1
  rw [List.mem_range] at hv
  rw [List.mem_singleton] at h2
  subst h2
  simp only [wfV, liveP, get4]
  have := begB_in (arcs := arcs) (k := k) (l := []) hv
  rw [List.append_nil] at this
  rw [this]
  trivial
theorem leH_beg {arcs : List Arc} {N k : Nat} {l : List Blk} : leH (begB arcs N k ++ l) (begB arcs N k) := by
  have : ∀ m : List Blk, (∀ b ∈ m, ∃ els, b = .arr 1 els) → leH (m ++ l) m := by
    intro m
    induction m with
    | nil => intro _; unfold leH; trivial
    | cons b r ih =>
      intro h
      obtain ⟨els, rfl⟩ := h b List.mem_cons_self
      exact ⟨rfl, ih fun b hb => h b (List.mem_cons_of_mem _ hb)⟩
  refine this _ fun b hb => ?_
  unfold begB at hb
  rw [List.mem_map] at hb
  obtain ⟨v, _, rfl⟩ := hb
  exact ⟨_, rfl⟩
def hp4 (N : Nat) (arcs : List Arc) (rest : List Int) (cells : List (List V)) (bs : List Blk) : List Blk :=
  .var [.i N, .ro 4 (arcs.map Arc.enc)] :: .var [.sl 2 0 rest.length] :: .arr 1 (rest.map encI) :: .arv 1 cells :: bs
def envP (N : Nat) (flow : List Int) (f t : Int) : Env := [(13, .sl 3 0 N), (12, .ptr 1 0 0), (4, .ptr 0 0 0), (3, .bro 1 (flow.map encI)), (2, .i t), (1, .i f)]
def pat7 (N : Nat) (arcs : List Arc) (flow : List Int) (f t : Int) (k : Nat) : St :=
  ⟨(39, .i k) :: (38, .i arcs.length) :: (37, .ro 4 (arcs.map Arc.enc)) :: envP N flow f t, hp4 N arcs flow (begS arcs N k) (begB arcs N k), 0⟩
theorem body22a (N : Nat) (arcs : List Arc) (flow : List Int) (f t : Int) (hV : Val N arcs) {RR : St → Prop} {X : Nat → St → Prop}
    (hX : ∀ b y z, X 0 ⟨(40, y) :: (39, z) :: (38, .i arcs.length) :: (37, .ro 4 (arcs.map Arc.enc)) :: envP N flow f t, hp4 N arcs flow (begS arcs N arcs.length) (begB arcs N arcs.length), b⟩) (k : Nat) (hk : k ≤ arcs.length) :
    aw cx0 c22l0 (fun s' => ∃ g' : Nat, (g' ≤ arcs.length ∧ arcs.length - g' < arcs.length - k) ∧ leS cx0.fx s' (pat7 N arcs flow f t g')) X RR (pat7 N arcs flow f t k) := by
  have hL := hV.hl
  have hfl := fun v => fromN_len (R := arcs) (k := k) (v := v)
  unfold c22l0 pat7 envP hp4
  simp -implicitDefEqProofs only [qa, qc, qd, qw, rdK, qx, qz, qA, qC, qE, qF, qI, qJ, qK, qM, qO, qP, qR, qU, qV, qW, qX, qY, qZ, zp, zr, zJ, zK, zL, zP, ofConst, cells?, List.length_nil, List.length_cons, List.set_cons_zero, splice, zQ, List.getD_eq_getElem?_getD, List.getElem?_cons_zero, ↓reduceIte, Nat.reduceEqDiff, Option.getD_some, zR, arrSz, zT, List.nil_append, List.cons_append, List.append_nil, Nat.zero_add, Nat.reduceAdd, Nat.add_zero, reduceCtorEq, freshP, litsP, List.map_cons, List.map_nil, List.drop_zero, List.take_zero, List.take_nil, List.drop_nil, List.all_cons, List.all_nil, isD, Bool.and_true, Bool.and_self, true_and, and_true, and_self, List.not_mem_nil, false_or, List.length_append, List.length_map, not_false_eq_true, Nat.reduceLT, Nat.le_refl, lg0, ka, kc, ke, kf, lg1, kh, kj, lg2, kn, kr, jo, ↓jp, ↓jr, ↓jt, ↓ju, ↓jx, ↓jy, ↓jz, ↓jA, ↓jB, ↓jE, ↓jG, ↓jH, ↓jW, ↓jX, ↓qaR, List.length_map, List.getElem_map, enc_len, enc_take, enc_0, enc_isC, Int.toNat_natCast, cx0_bn, cx0_fx, get4, set4, begB_len, begB_out, begB_out0, begB_set, begB_set0, begS_len, List.append_assoc]
  simp only [br, decide_eq_true_eq, decide_eq_false_iff_not]
  refine ⟨fun h => ?_, fun h => ?_⟩
  · have hk1 : k < arcs.length := by omega
    have hgk : gA arcs k = arcs[k] := getD_nil (a := ⟨0,0,0,0⟩) hk1
    have hf := (val_in hV hk1).1
    rw [hgk] at hf
    have hv : (gA arcs k).from_ = ((arcs[k].from_.toNat : Nat) : Int) := by rw [hgk]; omega
    refine ⟨⟨by omega, h⟩, by omega, hf, by omega, ?_⟩
    simp -implicitDefEqProofs only [qd, qy, qz, qA, qC, qF, qO, qP, qR, qW, qY, qZ, zJ, zK, zL, zM, zP, ofConst, cells?, List.length_nil, List.length_cons, List.set_cons_zero, splice, zQ, List.getD_eq_getElem?_getD, List.getElem?_cons_zero, ↓reduceIte, Nat.reduceEqDiff, Option.getD_some, zR, arrSz, List.nil_append, List.append_nil, Nat.zero_add, reduceCtorEq, zZ, leE, leH, leB, leV, leVs, keepP, liveP, wfE, wfB, wfV, wfL, killE, killB, kill, kills, St.kill, List.map_cons, List.drop_zero, List.take_zero, List.drop_nil, List.all_cons, List.all_nil, isC, Bool.and_true, Bool.and_self, true_and, and_true, and_self, V.v.injEq, Value.int.injEq, Value.bool.injEq, List.mem_cons, List.not_mem_nil, or_false, false_or, List.length_map, not_false_eq_true, Bool.false_eq_true, Nat.le_refl, lg0, ka, kc, lg1, kg, lg2, kk, jo, ↓jp, ↓jA, ↓jD, ↓jG, ↓qan, ↓qao, ↓qaJ, List.length_map, List.getElem_map, cx0_fx, get4, set4, begS_len, begS_get, begB_in (show arcs[k].from_.toNat < N by omega)]
    have hvN : arcs[k].from_.toNat < N := by omega
    have hf2 := hfl (arcs[k].from_.toNat : Nat)
    rw [List.map_append, begB_kill, begB_put hvN, List.take_of_length_le (by rw [rows_len]; omega), begS_next hvN hv, show [V.v (Value.int IntKind.i64 (k : Int))] = encN k from rfl, begB_next hvN hv]
    exact ⟨⟨by rw [rows_len]; omega, by omega⟩, by omega, hf, by omega, by simp only [lo, hi]; omega, k + 1, ⟨by omega, by omega⟩, by omega, ⟨rfl, leH_beg⟩, begS_wf, begB_wf⟩
  · have hke : k = arcs.length := by omega
    subst hke
    have := hX (N + 1 + 1 + 1 + 1) (.b (decide ((arcs.length : Int) < arcs.length))) (.i arcs.length)
    unfold envP hp4 at this
    exact this
end Go.Fx.F
namespace Go.Fx.F
open Go Go.Fx Go.Proofs
set_option maxRecDepth 20000
def frzQ (fx : List Nat) (v : V) (r : List Nat) (s : St) (K : St → Prop) : Prop :=
  match v with
  | .sl k _ _ => frz1 fx k (blk s.h k) s fun s' => frzP fx r s' K
  | _ => frzP fx r s K
theorem op_litsf {cx : Cx} {e : Env} {h : List Blk} {b : Nat} {K : V → St → Prop} {xs : List Nat} {j sz n : Nat} {z : List Value} {ps : List (Nat × Operand)} : aOp cx (.litsf xs j sz n z ps) ⟨e, h, b⟩ K =
    frzP (cx.fx ++ cx.bn) xs ⟨e, h, b⟩ fun s => litsP s.e sz (List.replicate n (z.map .v)) ps fun els => freshP s.h (s.b + j) ∧ K (.sl (s.b + j) 0 n) { s with h := s.h.set (s.b + j) (.arr sz els) } := rfl
theorem frzP_n {fx : List Nat} {s : St} {K : St → Prop} : frzP fx [] s K = K s := rfl
theorem frzP_c {fx : List Nat} {x : Nat} {r : List Nat} {e : Env} {h : List Blk} {b : Nat} {K : St → Prop} : frzP fx (x :: r) ⟨e, h, b⟩ K = frzQ fx (get e x) r ⟨e, h, b⟩ K := rfl
theorem frzQ_s {fx : List Nat} {k i n : Nat} {r : List Nat} {e : Env} {h : List Blk} {b : Nat} {K : St → Prop} : frzQ fx (.sl k i n) r ⟨e, h, b⟩ K = frz1 fx k (blk h k) ⟨e, h, b⟩ fun s' => frzP fx r s' K := rfl
theorem frz1_a {fx : List Nat} {k sz : Nat} {els : List (List V)} {e : Env} {h : List Blk} {b : Nat} {K : St → Prop} : frz1 fx k (.arr sz els) ⟨e, h, b⟩ K = (k ∉ fx ∧ K ⟨frzE k sz els e, (h.map (frzB k sz els)).set k .dead, b⟩) := rfl
@[congr] theorem c_frzQ {fx : List Nat} {v v' : V} {r : List Nat} {s : St} {K : St → Prop} (q : v = v') : frzQ fx v r s K = frzQ fx v' r s K := by rw [q]
@[congr] theorem c_frz1 {fx : List Nat} {k : Nat} {B B' : Blk} {s : St} {K : St → Prop} (q : B = B') : frz1 fx k B s K = frz1 fx k B' s K := by rw [q]
@[congr] theorem c_frzP {fx xs : List Nat} {s s' : St} {K : St → Prop} (q : s = s') : frzP fx xs s K = frzP fx xs s' K := by rw [q]
/-- 'begin', zas it is seen. -/
def begR (arcs : List Arc) (N : Nat) : List (List V) := (List.range N).map fun (v : Nat) => [.ro 1 (rows (fromN arcs v arcs.length))]
theorem begR_len {arcs : List Arc} {N : Nat} : (begR arcs N).length = N := by simp [begR]
theorem begR_get {arcs : List Arc} {N v : Nat} (h : v < (begR arcs N).length) : (begR arcs N)[v] = [.ro 1 (rows (fromN arcs v arcs.length))] := by simp [begR]
theorem begR_wf {arcs : List Arc} {N : Nat} {h : List Blk} : wfL h (begR arcs N).flatten := by
  refine wfL_all fun x hx => ?_
  rw [List.mem_flatten] at hx
  obtain ⟨l, h1, h2⟩ := hx
  unfold begR at h1
  rw [List.mem_map] at h1
  obtain ⟨v, _, rfl⟩ := h1
  rw [List.mem_singleton] at h2
  subst h2
  trivial
theorem begR_kill {arcs : List Arc} {N : Nat} {M : List Nat} : (begR arcs N).map (kills M) = begR arcs N := by
  unfold begR
  rw [List.map_map]
  rfl
theorem begR_frz {arcs : List Arc} {N k sz : Nat} {els : List (List V)} : (begR arcs N).map (frzL k sz els) = begR arcs N := by
  unfold begR
  rw [List.map_map]
  rfl
theorem begR_gv {arcs : List Arc} {N : Nat} {M : Nat → Bool} {h : List Blk} : (begR arcs N).map (gvL M h) = begR arcs N := by
  unfold begR
  rw [List.map_map]
  rfl
theorem begR_mv {arcs : List Arc} {N i j : Nat} : (begR arcs N).map (mvL i j) = begR arcs N := by
  unfold begR
  rw [List.map_map]
  rfl
theorem begR_ren {arcs : List Arc} {N : Nat} {g : Nat → Option Nat} : (begR arcs N).map (rens g) = begR arcs N := by
  unfold begR
  rw [List.map_map]
  rfl
theorem begS_give {arcs : List Arc} {N : Nat} {a b c d : Blk} : (begS arcs N arcs.length).map (gvL (fun k => decide (4 ≤ k)) (a :: b :: c :: d :: begB arcs N arcs.length)) = begR arcs N := by
  apply List.ext_getElem
  · simp [begS, begR]
  · intro v h1 h2
    have hv : v < N := by simpa [begR] using h2
    rw [List.getElem_map, begS_get, begR_get]
    have hb : blk (a :: b :: c :: d :: begB arcs N arcs.length) (v + 4) = .arr 1 (rows (fromN arcs v arcs.length)) := by
      unfold blk
      have := begB_in (arcs := arcs) (k := arcs.length) (l := []) hv
      rw [List.append_nil] at this
      rw [List.getD_eq_getElem?_getD, get4, this]; rfl
    simp only [gvL, gvV, hb]
    have : List.take (fromN arcs (↑v) arcs.length).length (rows (fromN arcs v arcs.length)) = rows (fromN arcs v arcs.length) := List.take_of_length_le (by rw [rows_len]; omega)
    simp [rows_len, this]
def wrows (ws : List (List Nat)) : List (List V) := ws.map fun w => [.ro 1 (rows w)]
def envO (N : Nat) (f t left : Int) (m k : Nat) : Env := [(18, .i left), (17, .sl 5 0 k), (16, .sl 4 0 m), (13, .sl 3 0 N), (12, .ptr 1 0 0), (4, .ptr 0 0 0), (2, .i t), (1, .i f)]
def patO (N : Nat) (arcs : List Arc) (f t : Int) (rest : List Int) (ws : List (List Nat)) (ns : List Int) : St :=
  ⟨envO N f t (valTo arcs f rest arcs.length) ws.length ns.length, hp4 N arcs rest (begR arcs N) [.arr 1 (wrows ws), .arr 1 (ns.map encI)], 0⟩
def patI (N : Nat) (arcs : List Arc) (f t : Int) (rest : List Int) (ws : List (List Nat)) (ns : List Int) (way : List Nat) (at_ : Int) : St :=
  ⟨(20, .ptr 6 0 0) :: (19, .sl 7 0 way.length) :: envO N f t (valTo arcs f rest arcs.length) ws.length ns.length, hp4 N arcs rest (begR arcs N) [.arr 1 (wrows ws), .arr 1 (ns.map encI), .var [.i at_], .arr 1 (rows way)], 0⟩
/-- The first arc, by its place in 'begin'. -/
theorem pos_first {arcs : List Arc} {rest : List Int} {v : Int} {i : Nat} (h : firstI arcs rest v = some i) : ∃ k, posI rest (fromN arcs v arcs.length) = some k ∧ ∃ hk : k < (fromN arcs v arcs.length).length, (fromN arcs v arcs.length)[k] = i := by
  have h1 : (fromN arcs v arcs.length).find? (fun i => decide (0 < rest.getD i 0)) = some i := by
    unfold fromN
    rw [List.find?_filter]
    rw [← h]
    unfold firstI
    congr 1
    funext i
    simp
  have h2 := List.find?_some h1
  cases hp : posI rest (fromN arcs v arcs.length) with
  | none =>
    unfold posI at hp
    rw [List.findIdx?_eq_none_iff] at hp
    have := hp i (List.mem_of_find?_eq_some h1)
    rw [this] at h2; simp at h2
  | some k =>
    have hp2 := hp
    unfold posI at hp2
    rw [List.findIdx?_eq_some_iff_getElem] at hp2
    obtain ⟨hk, g1, g2⟩ := hp2
    refine ⟨k, rfl, hk, ?_⟩
    have : (fromN arcs v arcs.length).find? (fun i => decide (0 < rest.getD i 0)) = some (fromN arcs v arcs.length)[k] := by
      rw [List.find?_eq_some_iff_getElem]
      exact ⟨g1, k, hk, rfl, fun j hj => by simpa using g2 j hj⟩
    rw [this] at h1
    simpa using h1
theorem rows_snoc {w : List Nat} {i : Nat} : rows (w ++ [i]) = rows w ++ [encN i] := by simp [rows]
theorem rows_drop {w : List Nat} {k : Nat} : (rows w).drop k = rows (w.drop k) := by simp [rows, List.map_drop]
theorem rows_take {w : List Nat} {k : Nat} (h : w.length ≤ k) : (rows w).take k = rows w := List.take_of_length_le (by rw [rows_len]; exact h)
theorem body22c (N : Nat) (arcs : List Arc) (f t : Int) (rest : List Int) (ws : List (List Nat)) (ns : List Int) (hV : Val N arcs) (hF : Fv N arcs f t rest) (hv : 0 < valTo arcs f rest arcs.length) {RR : St → Prop} {X : Nat → St → Prop}
    (hX4 : ∀ way b y64 y65 y66, att arcs t (N + 1) rest [] f = (rest, some way) → X 4 ⟨(66, y66) :: (65, y65) :: (64, y64) :: (patI N arcs f t rest ws ns way t).e, (patI N arcs f t rest ws ns way t).h, b⟩)
    (way : List Nat) (at_ : Int) (hW : Wv N arcs f rest way at_) (ha : att arcs t (N + 1 - way.length) rest way at_ = att arcs t (N + 1) rest [] f)
    (hX3 : ∀ rest' e h b, att arcs t (N + 1) rest [] f = (rest', none) → leS [] ⟨e, h, b⟩ ⟨envO N f t (valTo arcs f rest arcs.length) ws.length ns.length, hp4 N arcs rest' (begR arcs N) [.arr 1 (wrows ws), .arr 1 (ns.map encI)], 0⟩ → X 3 ⟨e, h, b⟩) :
    aw cx0 c22l2 (fun s' => ∃ g' : List Nat × Int, ((Wv N arcs f rest g'.1 g'.2 ∧ att arcs t (N + 1 - g'.1.length) rest g'.1 g'.2 = att arcs t (N + 1) rest [] f) ∧ N + 1 - g'.1.length < N + 1 - way.length) ∧ leG cx0.fx s' (patI N arcs f t rest ws ns g'.1 g'.2)) X RR (patI N arcs f t rest ws ns way at_) := by
  have hL := hV.hl
  have hN := hV.hn
  have hwl := hW.len hV
  obtain ⟨m, hm⟩ : ∃ m, N + 1 - way.length = m + 1 := ⟨N - way.length, by omega⟩
  generalize hA : att arcs t (N + 1) rest [] f = A at *
  rw [hm] at ha
  unfold att at ha
  unfold c22l2 patI envO hp4
  by_cases hat : at_ = t
  · subst hat
    rw [if_pos rfl] at ha
    simp -implicitDefEqProofs only [qF, qI, qJ, qM, qO, qP, qR, qV, qZ, zJ, zL, zP, List.length_nil, List.length_cons, zQ, List.getD_eq_getElem?_getD, List.getElem?_cons_zero, ↓reduceIte, Nat.reduceEqDiff, Option.getD_some, zR, zT, ↓zV, List.append_nil, Nat.zero_add, Nat.reduceAdd, true_and, lg0, lg1, lg2, lg3, lg4, lg5, jo, ↓jp, ↓jr, ↓ju, ↓jy, ↓qaQ, cx0_fx, bne_self_eq_false]
    have := hX4 way 8 (.i at_) (.i at_) (.b false) ha.symm
    unfold patI envO hp4 at this
    exact this
  · rw [if_neg hat] at ha
    have hne : (at_ != t) = true := by simpa using hat
    obtain ⟨i, hi⟩ := first_ex hF hv hW hat
    rw [hi] at ha
    simp only at ha
    obtain ⟨k, hk, hkl, hki⟩ := pos_first hi
    have hi2 := first_is hi
    have hW2 := hW.half hi
    have hat2 : at_.toNat < (begR arcs N).length := by rw [begR_len]; have := hW.rng; omega
    have hcast : ((at_.toNat : Nat) : Int) = at_ := by have := hW.rng; omega
    simp -implicitDefEqProofs only [qE, qF, qI, qJ, qK, qO, qP, qR, qV, qY, qZ, zh, zD, zJ, zL, zP, List.length_nil, List.length_cons, zQ, List.getD_eq_getElem?_getD, List.getElem?_cons_zero, ↓reduceIte, Nat.reduceEqDiff, Option.getD_some, zR, arrSz, zT, ↓zU, List.append_nil, Nat.zero_add, Nat.reduceAdd, List.map_cons, List.map_nil, true_and, lg0, lg1, lg2, lg3, lg4, lg5, jo, ↓jp, ↓jr, ↓ju, ↓jx, ↓jy, ↓jG, ↓qaQ, cx0_fx, hne, begR_len]
    refine ⟨hW.rng, by have := hW.rng; omega, ?_⟩
    simp -implicitDefEqProofs only [List.getElem?_cons_zero, ↓jp, begR_get, hcast]
    have e46 := ok46a (fromN arcs at_ arcs.length) rest (fun j hj => by rw [hF.len]; exact fromN_lt hj) (by have := fromN_len (R := arcs) (v := at_) (k := arcs.length); omega)
    rw [hk] at e46
    refine call_isN [1, 2] [.bro 1 (rows (fromN arcs at_ arcs.length)), .clo 47 [.ptr 0 0 0]] (.i (k : Nat)) (.i (k : Nat)) _ _ (hp4 N arcs rest (begR arcs N) [.arr 1 (wrows ws), .arr 1 (ns.map encI), .var [.i at_], .arr 1 (rows way)]) e46 (by simp [cx0]) rfl (by simp [lendsOk, lendOk, lends, lend, wkL, wk, wkB, pos]) (by simp [restH2]) rfl rfl trivial ?_
    unfold hp4
    simp -implicitDefEqProofs only [qF, qG, qI, qO, qP, qR, qV, qW, qX, qY, zh, zp, zr, zD, zJ, zK, zL, zP, cells?, List.length_nil, List.length_cons, List.set_cons_zero, splice, zQ, List.getD_eq_getElem?_getD, List.getElem?_cons_zero, ↓reduceIte, Nat.reduceEqDiff, Option.getD_some, zR, arrSz, List.nil_append, List.cons_append, List.append_nil, Nat.zero_add, Nat.reduceAdd, Nat.add_zero, reduceCtorEq, freshP, litsP, killE, killB, kill, kills, St.kill, List.map_cons, List.map_nil, List.drop_zero, List.take_zero, List.take_nil, List.drop_nil, List.all_cons, List.all_nil, isD, isC, Bool.and_true, Bool.and_self, true_and, and_true, and_self, List.mem_cons, List.not_mem_nil, or_false, false_or, List.length_map, not_false_eq_true, Nat.reduceLT, Nat.le_refl, lg0, ka, kc, ke, kf, lg1, kg, kj, lg2, kk, lg3, kq, lg4, ky, lg5, kC, lg6, kG, lg7, kK, jo, ↓jp, ↓jr, ↓jt, ↓ju, ↓jx, ↓jy, ↓jA, ↓jB, ↓jE, ↓jF, ↓jG, ↓jH, ↓jW, ↓jX, ↓qan, ↓qao, List.length_map, List.getElem_map, enc_1, Int.toNat_natCast, cx0_bn, cx0_fx, begR_len, begR_get, hcast, begR_kill, rows_len, rows_get, encN_0, hki]
    have hg := hW.rng
    refine ⟨hg, by omega, ⟨by omega, by omega⟩, hkl, by omega, hg, by omega, ⟨by omega, by omega⟩, hkl, ⟨by omega, by omega⟩, hi2.1, ?_⟩
    have hgi : gA arcs i = arcs[i]'hi2.1 := getD_nil (a := ⟨0,0,0,0⟩) hi2.1
    have hrow : List.take way.length (rows way) ++ [[V.v (.int .i64 (i : Int))]] = rows (way ++ [i]) := by
      rw [rows_take (Nat.le_refl _), rows_snoc]; rfl
    rw [hrow, ← hgi]
    have hlen : (way ++ [i]).length = way.length + 1 := by simp
    generalize hwi : way ++ [i] = w2 at *
    generalize hto : (gA arcs i).to = to2 at *
    have e2 := ok46b N w2 arcs to2 (fun j hj => (hW2.2.1 j hj).1) (by omega)
    have htk : List.take (way.length + 1) (rows w2) = rows w2 := rows_take (by omega)
    refine call_isN [0, 6] [.bro 1 (rows w2), .clo 48 [.ptr 0 0 0, .ptr 1 0 0]] (.i (zI (seenI arcs w2 to2))) (.i (zI (seenI arcs w2 to2))) _ _ [.var [.i N, .ro 4 (arcs.map Arc.enc)], .var [.sl 2 0 rest.length], .arr 1 (rest.map encI), .arv 1 (begR arcs N), .arr 1 (wrows ws), .arr 1 (ns.map encI), .var [.i to2], .arr 1 (rows w2), .arr 1 [[V.v (.int .i64 (i : Int))]], .dead] e2 (by simp [cx0]) (by simp [atH, blk, renB, rens, ren]) (by simp [lendsOk, lendOk, lends, lend, wkL, wk, wkB, pos, blk, htk, rows_len, hlen]) (by simp [atH]) (by simp [atH, setAll, renB, rens, ren, back]) rfl trivial ?_
    cases hs : seenI arcs w2 to2 with
    | some k2 =>
      rw [hs] at ha
      simp only at ha
      obtain ⟨hk2, g1, _⟩ := seen_is hs
      have hd := isW_drop hW2.1 hk2
      rw [g1] at hd
      have hne2 : w2.drop k2 ≠ [] := by
        intro e
        have := congrArg List.length e
        rw [List.length_drop, List.length_nil] at this
        omega
      have hnd : (w2.drop k2).Nodup := List.Nodup.sublist (List.drop_sublist _ _) (nodup_of_map hW2.2.2)
      have e49 := ok49 rest (w2.drop k2) hF.rng hne2 hnd (fun j hj => by rw [hF.len]; exact (hW2.2.1 j (List.mem_of_mem_drop hj)).1) (by have := hF.len; omega) (by simp; omega)
      have hge : decide ((0 : Int) ≤ (k2 : Int)) = true := by simp
      simp -implicitDefEqProofs only [qE, qF, qG, qI, qJ, qO, qP, qR, qU, qV, qW, qZ, zj, zD, zJ, zK, zL, zM, zP, ofConst, cells?, List.length_nil, List.length_cons, List.set_cons_zero, splice, zQ, List.getD_eq_getElem?_getD, List.getElem?_cons_zero, ↓reduceIte, Nat.reduceEqDiff, Option.getD_some, zR, arrSz, zT, ↓zU, List.nil_append, List.cons_append, List.append_nil, Nat.zero_add, Nat.reduceAdd, Nat.add_zero, freshP, Option.map_some, Option.map_none, slcOk, Option.getD_none, List.map_cons, List.map_nil, List.take_zero, List.drop_nil, List.all_cons, List.all_nil, isC, Bool.and_true, Bool.and_self, true_and, and_true, and_self, List.not_mem_nil, not_false_eq_true, Nat.le_refl, lg0, ka, kc, kf, lg1, kg, lg2, kk, lg3, kq, lg4, ky, lg5, kC, lg6, kG, lg7, kK, lg8, kO, lg9, kS, jo, ↓jp, ↓jr, ↓ju, ↓jy, ↓jA, ↓jB, ↓qac, ↓qad, ↓qae, ↓qaU, Int.toNat_natCast, cx0_bn, zI, hge]
      refine ⟨by omega, ?_⟩
      have htk2 : List.take (way.length + 1 - k2) (List.drop k2 (rows w2)) = rows (w2.drop k2) := by
        rw [rows_drop]; exact rows_take (by simp; omega)
      refine call_isN [2] [.sl 0 0 rest.length, .bro 1 (rows (w2.drop k2))] (.i (tkN rest (w2.drop k2))) (.i (tkN rest (w2.drop k2))) _ _ [.var [.i N, .ro 4 (arcs.map Arc.enc)], .var [.sl 2 0 rest.length], .arr 1 ((tkR rest (w2.drop k2)).map encI), .arv 1 (begR arcs N), .arr 1 (wrows ws), .arr 1 (ns.map encI), .var [.i to2], .arr 1 (rows w2), .arr 1 [[V.v (.int .i64 (i : Int))]], .dead] e49 (by simp [cx0]) rfl (by simp [lendsOk, lendOk, lends, lend, wkL, wk, wkB, pos, blk, htk2, rows_len, hlen]; omega) (by simp [takeH]) rfl rfl trivial ?_
      simp -implicitDefEqProofs only [qM, qO, zJ, ↓reduceIte, Nat.reduceEqDiff]
      refine hX3 _ _ _ _ ha.symm ?_
      unfold envO hp4
      simp -implicitDefEqProofs only [zP, List.getElem?_cons_zero, ↓reduceIte, Nat.reduceEqDiff, zZ, leE, leH, leB, leV, leVs, keepP, liveP, wfE, wfB, wfV, wfL, Bool.and_self, and_self, lg0, lg1, lg2, lg3, lg4, leVs, leV, tkR_len, eq_true begR_wf]
    | none =>
      rw [hs] at ha
      simp only at ha
      have hge : decide ((0 : Int) ≤ -1) = false := rfl
      simp -implicitDefEqProofs only [qE, qF, qG, qI, qJ, qO, qP, qR, qU, qV, qW, qZ, zj, zD, zJ, zK, zL, zM, zP, ofConst, cells?, List.length_nil, List.length_cons, List.set_cons_zero, splice, zQ, List.getD_eq_getElem?_getD, List.getElem?_cons_zero, ↓reduceIte, Nat.reduceEqDiff, Option.getD_some, zR, arrSz, zT, ↓zV, List.nil_append, List.cons_append, List.append_nil, Nat.zero_add, Nat.reduceAdd, Nat.add_zero, freshP, Option.map_some, Option.map_none, slcOk, Option.getD_none, List.map_cons, List.map_nil, List.take_zero, List.drop_nil, List.all_cons, List.all_nil, isC, Bool.and_true, Bool.and_self, true_and, and_true, and_self, List.not_mem_nil, not_false_eq_true, Nat.le_refl, lg0, ka, kc, kf, lg1, kg, lg2, kk, lg3, kq, lg4, ky, lg5, kC, lg6, kG, lg7, kK, lg8, kO, lg9, kS, jo, ↓jp, ↓jr, ↓ju, ↓jy, ↓jA, ↓jB, ↓qac, ↓qad, ↓qae, ↓qaU, Int.toNat_natCast, cx0_bn, zI, hge]
      have hW3 : Wv N arcs f rest w2 to2 := ⟨hW2.1, hW2.2.1, hW2.2.2, seen_no hs, by rw [← hto]; exact (val_in hV hi2.1).2⟩
      refine ⟨(w2, to2), ⟨⟨hW3, ?_⟩, ?_⟩, _, .give (fun k => k == 6 || k == 8) (by simp) (.mv 6 10 (.var [.i to2]) (by decide) rfl rfl (by simp) (.refl _)), ?_⟩
      · show att arcs t (N + 1 - w2.length) rest w2 to2 = A
        rw [← ha]; congr 1; omega
      · show N + 1 - w2.length < N + 1 - way.length
        omega
      · simp -implicitDefEqProofs only [zP, List.length_nil, List.length_cons, List.set_cons_zero, zQ, List.getD_eq_getElem?_getD, List.getElem?_cons_zero, ↓reduceIte, Nat.reduceEqDiff, Option.getD_some, Nat.zero_add, Nat.reduceAdd, reduceCtorEq, zZ, leE, leH, leB, leV, leVs, keepP, liveP, wfE, wfB, wfV, wfL, List.map_cons, List.map_nil, List.drop_zero, List.take_nil, Bool.and_self, and_self, or_false, Bool.false_eq_true, Nat.le_refl, lg0, ka, ke, lg1, kg, lg2, kk, lg3, kq, lg4, ky, lg5, kC, lg6, kG, lg7, kK, kO, kS, leVs, leV, St.give, gvE, gvV, gvH, gvB, gvL, mvE, mvV, mvL, mvB, begR_gv, begR_mv, eq_true begR_wf, Nat.reduceBEq, Bool.or_self, Bool.or_true, Bool.or_false, hlen]
end Go.Fx.F
namespace Go.Fx.F
open Go Go.Fx Go.Proofs
set_option maxRecDepth 20000
theorem wrows_len {ws : List (List Nat)} : (wrows ws).length = ws.length := by simp [wrows]
theorem wrows_snoc {ws : List (List Nat)} {w : List Nat} : wrows (ws ++ [w]) = wrows ws ++ [[.ro 1 (rows w)]] := by simp [wrows]
structure InP (N : Nat) (arcs : List Arc) (f t : Int) (wsT : List (List Nat)) (nsT : List Int) (rest : List Int) (ws : List (List Nat)) (ns : List Int) : Prop where
  fv : Fv N arcs f t rest
  run : ∃ ws' ns', PR N arcs f t rest ws' ns' ∧ wsT = ws ++ ws' ∧ nsT = ns ++ ns'
  len : ws.length + cnt rest arcs.length ≤ arcs.length ∧ ns.length = ws.length
theorem val_in2 {N : Nat} {arcs : List Arc} {f t : Int} {rest : List Int} (hF : Fv N arcs f t rest) : -((arcs.length : Int) * 1073741824) ≤ valTo arcs f rest arcs.length ∧ valTo arcs f rest arcs.length ≤ (arcs.length : Int) * 1073741824 := by
  refine valTo_bound arcs f rest (fun x hx => ?_) _
  obtain ⟨i, hi, rfl⟩ := List.getElem_of_mem hx
  have := hF.rng i
  rw [List.getD_eq_getElem?_getD, List.getElem?_eq_getElem hi] at this
  exact this
theorem body22b (N : Nat) (arcs : List Arc) (f t : Int) (wsT : List (List Nat)) (nsT : List Int) (hV : Val N arcs) (hf : 0 ≤ f ∧ f < N) (hft : f ≠ t) {RR : St → Prop} {X : Nat → St → Prop}
    (hX : ∀ rest b y z, X 2 ⟨(62, y) :: (61, z) :: (patO N arcs f t rest wsT nsT).e, (patO N arcs f t rest wsT nsT).h, b⟩)
    (g : List Int × List (List Nat) × List Int) (hI : InP N arcs f t wsT nsT g.1 g.2.1 g.2.2) :
    aw cx0 c22l1 (fun s' => ∃ g' : List Int × List (List Nat) × List Int, (InP N arcs f t wsT nsT g'.1 g'.2.1 g'.2.2 ∧ cnt g'.1 arcs.length < cnt g.1 arcs.length) ∧ leS cx0.fx s' (patO N arcs f t g'.1 g'.2.1 g'.2.2)) X RR (patO N arcs f t g.1 g.2.1 g.2.2) := by
  obtain ⟨rest, ws, ns⟩ := g
  obtain ⟨hF, ⟨ws', ns', hR, hws, hns⟩, hln⟩ := hI
  simp only at hF hR hws hns hln
  have hL := hV.hl
  have hN := hV.hn
  unfold c22l1 patO envO hp4
  by_cases hv : 0 < valTo arcs f rest arcs.length
  · have hvt : decide (0 < valTo arcs f rest arcs.length) = true := decide_eq_true hv
    simp -implicitDefEqProofs only [qE, qF, qI, qJ, qK, qL, qM, qO, qP, qR, qU, qW, qZ, zJ, zK, zL, zM, zP, ofConst, cells?, List.length_nil, List.length_cons, List.set_cons_zero, splice, zQ, List.getD_eq_getElem?_getD, List.getElem?_cons_zero, ↓reduceIte, Nat.reduceEqDiff, Option.getD_some, zR, zT, ↓zU, List.nil_append, List.cons_append, List.append_nil, Nat.zero_add, Nat.reduceAdd, Nat.add_zero, freshP, List.take_zero, List.drop_nil, List.all_cons, List.all_nil, isC, Bool.and_true, Bool.and_self, true_and, and_true, and_self, List.not_mem_nil, not_false_eq_true, Nat.le_refl, lg0, ka, kc, kf, lg1, kg, lg2, kk, lg3, kq, lg4, ky, lg5, kC, jo, ↓jp, ↓jA, ↓jB, ↓qaT, cx0_bn, cx0_fx, hvt]
    refine loopP_back (fun g : List Nat × Int => patI N arcs f t rest ws ns g.1 g.2) (fun g => Wv N arcs f rest g.1 g.2 ∧ att arcs t (N + 1 - g.1.length) rest g.1 g.2 = att arcs t (N + 1) rest [] f) (fun g => N + 1 - g.1.length) ([], f) ⟨Wv.begin hf rest, rfl⟩ ?_ (fun g hg => body22c N arcs f t rest ws ns hV hF hv ?_ g.1 g.2 hg.1 hg.2 ?_)
    · refine ⟨_, .virt 1 1 (by decide) (.nilE 19 7 rfl (.refl _)), ?_⟩
      unfold patI envO hp4
      simp -implicitDefEqProofs only [zP, List.length_nil, List.getElem?_cons_zero, ↓reduceIte, Nat.reduceEqDiff, List.nil_append, List.cons_append, zZ, leE, leH, leB, leV, leVs, keepP, liveP, wfE, wfB, wfV, wfL, List.map_nil, Bool.and_self, and_self, lg0, kf, lg1, lg2, lg3, lg4, lg5, lg6, jo, leVs, leV, eq_true begR_wf, rows, List.map_nil]
    · intro way b y64 y65 y66 ha
      have hw := att_ok hV hft hF hv (N + 1) [] f (Wv.begin hf rest) (by simp)
      rw [ha] at hw
      obtain ⟨h2, h3, h4, h5⟩ : way ≠ [] ∧ isW arcs f way t ∧ way.Nodup ∧ ∀ j ∈ way, j < arcs.length ∧ 0 < rest.getD j 0 := by
        rcases hw with ⟨w, h1, h2, h3, h4, h5⟩ | ⟨rest', h1, _⟩
        · simp only [Prod.mk.injEq, Option.some.injEq, true_and] at h1
          subst h1
          exact ⟨h2, h3, h4, h5⟩
        · simp at h1
      have hto := take_ok hF h3 h2 h4 h5
      have hFv := take_Fv hF h3 h2 h4 h5 (.inr ⟨rfl, rfl⟩)
      obtain ⟨ws2, ns2, rfl, rfl, hR2⟩ := hR.way hv ha
      have hwl : way.length ≤ arcs.length := by
        have := nodup_le (l := way.map Int.ofNat) arcs.length (by
          rw [List.nodup_iff_pairwise_ne, List.pairwise_map]
          exact List.Pairwise.imp (fun h e => h (Int.ofNat.inj e)) (List.nodup_iff_pairwise_ne.1 h4)) (by
          intro v hv
          rw [List.mem_map] at hv
          obtain ⟨i, hi, rfl⟩ := hv
          have := (h5 i hi).1
          simp only [Int.ofNat_eq_natCast]; omega)
        simpa using this
      unfold patI envO hp4
      simp only [↓reduceIte]
      simp -implicitDefEqProofs only [qa, qw, rdK, qx, qz, qA, qC, qI, qR, qV, zr, zD, zJ, zL, zP, cells?, List.length_nil, List.length_cons, List.set_cons_zero, zQ, List.getD_eq_getElem?_getD, List.getElem?_cons_zero, ↓reduceIte, Nat.reduceEqDiff, Option.getD_some, List.nil_append, List.cons_append, Nat.zero_add, Nat.reduceAdd, Nat.add_zero, reduceCtorEq, freshP, litsP, killE, killB, kill, kills, St.kill, List.map_cons, List.map_nil, List.drop_zero, List.take_nil, List.all_cons, List.all_nil, isD, Bool.and_true, Bool.and_self, true_and, and_true, and_self, List.mem_cons, List.not_mem_nil, or_false, false_or, not_false_eq_true, Bool.false_eq_true, Nat.reduceLT, Nat.le_refl, lg0, ka, ke, kf, lg1, kg, kj, lg2, kk, kp, lg3, kq, kx, lg4, ky, lg5, kC, lg6, kG, lg7, kK, jo, ↓jp, ↓jr, ↓ju, ↓jy, ↓jW, ↓jX, ↓qan, ↓qao, cx0_fx, ↓op_litsf, ↓frzP_n, ↓frzP_c, ↓frzQ_s, ↓frz1_a, begR_kill, begR_frz, frzE, frzV, frzL, frzB, rows_len]
      have htw : List.take way.length (rows way) = rows way := rows_take (Nat.le_refl _)
      have htws : List.take ws.length (wrows ws) = wrows ws := List.take_of_length_le (by rw [wrows_len]; exact Nat.le_refl _)
      rw [htw, htws, ← wrows_snoc]
      have hcl : 0 < arcs.length := by
        have := h5
        cases way with
        | nil => exact absurd rfl h2
        | cons i w => have := (h5 i List.mem_cons_self).1; omega
      refine ⟨⟨by rw [wrows_len]; omega, by omega⟩, ?_⟩
      have e49 := ok49 rest way hF.rng h2 h4 (fun j hj => by rw [hF.len]; exact (h5 j hj).1) (by have := hF.len; omega) (by omega)
      refine call_isN [2] [.sl 0 0 rest.length, .bro 1 (rows way)] (.i (tkN rest way)) (.i (tkN rest way)) _ _ [.var [.i N, .ro 4 (arcs.map Arc.enc)], .var [.sl 2 0 rest.length], .arr 1 ((tkR rest way).map encI), .arv 1 (begR arcs N), .arr 1 (wrows (ws ++ [way])), .arr 1 (ns.map encI), .var [.i t], .dead, .arr 1 [[.ro 1 (rows way)]], .dead, .dead, .dead] e49 (by simp [cx0]) rfl (by simp [lendsOk, lendOk, lends, lend, wkL, wk, wkB, pos]) (by simp [takeH]) rfl rfl trivial ?_
      simp -implicitDefEqProofs only [qa, qy, qz, qA, qC, qF, qO, qP, qR, qV, qY, qZ, zb, zp, zr, zJ, zL, zM, zP, ofConst, cells?, List.length_nil, List.length_cons, List.set_cons_zero, zQ, List.getD_eq_getElem?_getD, List.getElem?_cons_zero, ↓reduceIte, Nat.reduceEqDiff, Option.getD_some, zR, arrSz, List.append_nil, Nat.zero_add, Nat.reduceAdd, reduceCtorEq, freshP, litsP, zZ, leE, leH, leB, leV, leVs, keepP, liveP, wfE, wfB, wfV, wfL, killE, killB, kill, kills, St.kill, List.map_cons, List.map_nil, List.drop_zero, List.take_nil, List.all_cons, List.all_nil, isD, Bool.and_true, Bool.and_self, true_and, and_true, and_self, V.v.injEq, Value.int.injEq, Value.bool.injEq, List.mem_cons, List.not_mem_nil, or_false, false_or, List.length_append, List.length_map, not_false_eq_true, Bool.false_eq_true, Nat.reduceLT, Nat.le_refl, lg0, ka, ke, kf, lg1, kg, lg2, kk, lg3, kq, lg4, ky, lg5, kC, lg6, kG, lg7, kK, lg8, kO, lg9, kS, jo, ↓jp, ↓jr, ↓jv, ↓jy, ↓jG, ↓jL, ↓jW, ↓jX, ↓qan, ↓qao, ↓qaL, List.length_map, cx0_fx, begR_kill]
      have hvb := val_in2 hF
      have hvb2 := val_in2 hFv
      have hval := hto.2.2.2.2 f
      rw [if_pos rfl, if_neg (fun e => hft e.symm)] at hval
      have e0 : List.take ns.length (ns.map encI) ++ [[V.v (.int .i64 (tkN rest way))]] = (ns ++ [tkN rest way]).map encI := by
        rw [List.take_of_length_le (by simp), List.map_append]; rfl
      have hc : (((ns.length + 1 : Nat) : Int) - 1).toNat = ns.length := by omega
      have hg : ∀ h : ns.length < ((ns ++ [tkN rest way]).map encI).length, ((ns ++ [tkN rest way]).map encI)[ns.length] = encI (tkN rest way) := by
        intro h; simp
      refine ⟨by omega, fun _ => ⟨⟨by simp only [lo]; omega, by simp only [hi]; omega⟩, ⟨by omega, by omega⟩, by simp, ?_⟩⟩
      simp only [e0, hc, hg]
      simp -implicitDefEqProofs only [zR, true_and, ↓jp, encI_0]
      refine ⟨⟨by simp only [lo]; omega, by simp only [hi]; omega⟩, (tkR rest way, ws ++ [way], ns ++ [tkN rest way]), ⟨⟨hFv, ⟨ws2, ns2, hR2, by rw [hws]; simp, by rw [hns]; simp⟩, ?_⟩, hto.2.2.2.1⟩, ⟨by rw [hval]; omega, by simp, by simp⟩, ⟨by rw [tkR_len], rfl, rfl, rfl⟩, begR_wf⟩
      have := hto.2.2.2.1
      show (ws ++ [way]).length + cnt (tkR rest way) arcs.length ≤ arcs.length ∧ (ns ++ [tkN rest way]).length = (ws ++ [way]).length
      simp; omega
    · intro rest' e h b ha hle
      simp only [↓reduceIte]
      have hw := att_ok hV hft hF hv (N + 1) [] f (Wv.begin hf rest) (by simp)
      rw [ha] at hw
      rcases hw with ⟨w, h1, _⟩ | ⟨rest2, h1, h2, h3, h4⟩
      · simp at h1
      simp only [Prod.mk.injEq, and_true] at h1
      subst h1
      refine ⟨(rest', ws, ns), ⟨⟨h2, ⟨ws', ns', hR.circ hv ha (by rw [h3]; exact hv), hws, hns⟩, ?_⟩, h4⟩, ?_⟩
      · show ws.length + cnt rest' arcs.length ≤ arcs.length ∧ ns.length = ws.length
        omega
      · rw [← h3] at hle
        exact hle
  · have hvf : decide (0 < valTo arcs f rest arcs.length) = false := decide_eq_false hv
    simp -implicitDefEqProofs only [qE, qF, qI, qJ, qK, qL, qM, qO, qP, qR, qU, qW, qZ, zJ, zK, zL, zM, zP, ofConst, cells?, List.length_nil, List.length_cons, List.set_cons_zero, splice, zQ, List.getD_eq_getElem?_getD, List.getElem?_cons_zero, ↓reduceIte, Nat.reduceEqDiff, Option.getD_some, zR, zT, ↓zV, List.nil_append, List.cons_append, List.append_nil, Nat.zero_add, Nat.reduceAdd, Nat.add_zero, freshP, List.take_zero, List.drop_nil, List.all_cons, List.all_nil, isC, Bool.and_true, Bool.and_self, true_and, and_true, and_self, List.not_mem_nil, not_false_eq_true, Nat.le_refl, lg0, ka, kc, kf, lg1, kg, lg2, kk, lg3, kq, lg4, ky, lg5, kC, jo, ↓jp, ↓jA, ↓jB, ↓qaT, cx0_bn, cx0_fx, hvf]
    cases hR with
    | step h _ _ => exact absurd h hv
    | stop h =>
      rw [List.append_nil] at hws hns
      subst hws hns
      exact hX rest 6 _ _
end Go.Fx.F
namespace Go.Fx.F
open Go Go.Fx Go.Proofs
set_option maxRecDepth 20000
theorem grt_check {N : Nat} {arcs : List Arc} {f t : Int} (he : endsB N f t = true) {r : List Int} (hr : Grt N arcs f t r) : checkI N arcs f t r = 0 := by
  have hE : (0 ≤ f ∧ f < N) ∧ (0 ≤ t ∧ t < N) ∧ f ≠ t := by simpa [endsB] using he
  obtain ⟨d, hd, hv⟩ := hr.val
  unfold checkI
  rw [if_neg (by simp [he, hr.len]), if_neg (by simp [hr.pos]), if_pos]
  refine ⟨fun j _ _ h1 h2 => ?_, ?_⟩
  · rw [hv, if_neg (fun h => h1 h.symm), if_neg (fun h => h2 h.symm)]; rfl
  · rw [hv, if_pos rfl, if_neg (fun h => hE.2.2 h.symm)]; omega
theorem check_flow {N : Nat} {arcs : List Arc} {f t : Int} {fl : List Int} (h : checkI N arcs f t fl = 0) : ∀ j : Int, 0 ≤ j → j < N → j ≠ f → j ≠ t → valTo arcs j fl arcs.length = 0 := by
  unfold checkI at h
  split at h
  · simp at h
  · split at h
    · simp at h
    · split at h
      · rename_i h3; exact h3.1
      · simp at h
theorem grt_proves {N : Nat} {arcs : List Arc} (hV : Val N arcs) {f t : Int} (he : endsB N f t = true) {r : List Int} (hr : Grt N arcs f t r) : provesB N arcs f t r (cutOf arcs N f r) = true := by
  have hE : (0 ≤ f ∧ f < N) ∧ (0 ≤ t ∧ t < N) ∧ f ≠ t := by simpa [endsB] using he
  obtain ⟨s1, s2, s3⟩ := strong hV hE hr
  unfold provesB
  exact decide_eq_true ⟨grt_check he hr, cutOf_len, s1, s2, s3⟩
theorem ok4 (n : Int) (arcs : List Arc) (f t : Int) (other : List Int) (cut : List Bool) : Ok 4 [rnet n arcs, .i f, .i t, rli other, rlb cut] (Is (.b true)) := by
  refine ok_of lw4 (by simp) ?_
  unfold c4
  simp -implicitDefEqProofs only [qF, qI, qO, qP, qR, qT, qV, zD, zJ, zL, zM, zP, ofConst, cells?, List.length_nil, List.length_cons, List.set_cons_zero, zQ, List.getD_eq_getElem?_getD, List.getElem?_cons_zero, ↓reduceIte, Nat.reduceEqDiff, Option.getD_some, List.nil_append, List.append_nil, Nat.zero_add, Nat.reduceAdd, Nat.add_zero, freshP, List.map_cons, List.map_nil, List.drop_zero, List.take_nil, true_and, Nat.le_refl, ke, kf, ki, jo, ↓jp, ↓jr, ↓ju, ↓jz, args0, rnet, rli, rlb]
  refine call_is (ok9 n arcs 30 100) ?_ rfl ?_
  · simp [net, lendsOk, lendOk, lends, lend, wkL, wk, wkB, pos]
  cases hF : (decide (n ≤ 30 ∧ (arcs.length : Int) ≤ 100) && validB n arcs) with
  | false =>
    simp -implicitDefEqProofs only [qF, qI, qJ, qO, qP, zd, zD, zJ, zL, zP, List.length_nil, List.length_cons, ↓reduceIte, zS, zT, Bool.not_false, ↓zU, List.append_nil, Nat.zero_add, List.map_nil, jo]
    refine call_is sanOk ?_ rfl ?_
    · simp [lendsOk, lendOk, lends, lend, wkL, wk, wkB, pos]
    simp -implicitDefEqProofs only [qN, qO, qP, qR, zJ, zL, zP, ↓reduceIte, List.nil_append, zY, resP, tupV, List.reverse_cons, List.reverse_nil, wfV, Bool.and_self, and_self]
  | true =>
    simp only [Bool.and_eq_true, decide_eq_true_eq] at hF
    obtain ⟨N, rfl, hV⟩ := valOf hF.2
    have hN := hV.hn
    have hL := hV.hl
    have h01 : ((1 : Int) != 0) = true := rfl
    have h00 : ((0 : Int) != 0) = false := rfl
    simp -implicitDefEqProofs only [qE, qF, qI, qJ, qO, qP, qR, qV, zd, zD, zJ, zL, zP, List.length_nil, List.length_cons, zQ, List.getD_eq_getElem?_getD, List.getElem?_cons_zero, ↓reduceIte, Nat.reduceEqDiff, Option.getD_some, zS, zT, Bool.not_true, ↓zV, List.append_nil, Nat.zero_add, Nat.reduceAdd, reduceCtorEq, List.map_cons, List.map_nil, List.drop_zero, List.take_nil, true_and, Nat.le_refl, ke, ki, jo, ↓jr, ↓ju, ↓jz]
    cases he : endsB N f t with
    | false =>
      refine call_is (ok11e N arcs f t he) ?_ rfl ?_
      · simp [net, lendsOk, lendOk, lends, lend, wkL, wk, wkB, pos]
      simp -implicitDefEqProofs only [qE, qF, qI, qJ, qO, qP, qR, qV, qZ, zD, zE, zJ, zL, zM, zP, ofConst, List.length_nil, List.length_cons, zQ, List.getD_eq_getElem?_getD, List.getElem?_cons_zero, ↓reduceIte, Nat.reduceEqDiff, Option.getD_some, zR, zT, ↓zU, List.append_nil, Nat.zero_add, Nat.reduceAdd, reduceCtorEq, List.map_cons, List.map_nil, List.drop_zero, List.take_nil, true_and, Nat.le_refl, lg0, ke, lg1, ki, jo, ↓jp, ↓jr, ↓ju, ↓jz, ↓jR, ↓qaQ, h01]
      refine call_is sanOk ?_ rfl ?_
      · simp [lendsOk, lendOk, lends, lend, wkL, wk, wkB, pos]
      simp -implicitDefEqProofs only [qN, qO, qP, qQ, qR, qS, qV, qX, qZ, zJ, zL, zM, zP, ofConst, zQ, List.getD_eq_getElem?_getD, List.getElem?_cons_zero, ↓reduceIte, Nat.reduceEqDiff, Option.getD_some, zR, zT, Bool.not_false, ↓zU, ↓zV, zW, List.nil_append, Nat.add_zero, reduceCtorEq, zY, resP, tupV, List.reverse_cons, List.reverse_nil, wfV, Bool.and_self, true_and, and_self, V.v.injEq, Value.int.injEq, Value.bool.injEq, Bool.false_eq_true, ↓jp, ↓jr, ↓ju, ↓jy, ↓jE, ↓qaP, ↓qaR, ↓qaU]
      simp only [endsB, decide_eq_false_iff_not] at he
      simp only [br, decide_eq_true_eq, decide_eq_false_iff_not, beq_iff_eq, beq_eq_false_iff_ne]
      refine ⟨fun _ => trivial, fun h1 => ⟨fun _ => trivial, fun h2 => ⟨fun _ => trivial, fun h3 => ⟨fun _ => trivial, fun h4 => ?_⟩⟩⟩⟩
      apply Classical.byContradiction
      intro h5
      exact he ⟨⟨by omega, by omega⟩, ⟨by omega, by omega⟩, h5⟩
    | true =>
      have hE : (0 ≤ f ∧ f < N) ∧ (0 ≤ t ∧ t < N) ∧ f ≠ t := by simpa [endsB] using he
      obtain ⟨r, hr⟩ := grt hV hE
      obtain ⟨d, hd, hv⟩ := hr.val
      have hvf : valTo arcs f r arcs.length = d := by rw [hv, if_pos rfl, if_neg (fun h => hE.2.2 h.symm)]; omega
      have hvt : valTo arcs t r arcs.length = -d := by rw [hv, if_neg hE.2.2, if_pos rfl]; omega
      have hfr := hV.flow hr.len hr.pos
      have hdb := valTo_bound arcs f r hfr arcs.length
      rw [hvf] at hdb
      have hwr : IntKind.wrap .i64 (-d) = -d := wrap_in .i64 _ (by simp only [lo, hi]; omega)
      have hpr := grt_proves hV he hr
      refine call_is (ok11d N arcs f t r hV he hr.run hr.len) ?_ rfl ?_
      · simp [net, lendsOk, lendOk, lends, lend, wkL, wk, wkB, pos]
      simp -implicitDefEqProofs only [qE, qF, qI, qJ, qO, qP, qR, qV, qZ, zD, zE, zJ, zL, zM, zP, ofConst, List.length_nil, List.length_cons, zQ, List.getD_eq_getElem?_getD, List.getElem?_cons_zero, ↓reduceIte, Nat.reduceEqDiff, Option.getD_some, zR, zT, ↓zV, List.append_nil, Nat.zero_add, Nat.reduceAdd, reduceCtorEq, List.map_cons, List.map_nil, List.drop_zero, List.take_nil, true_and, Nat.le_refl, lg0, ke, lg1, ki, jo, ↓jp, ↓jr, ↓ju, ↓jz, ↓jR, ↓qaQ, rli, rlb, h00]
      refine call_is (ok15 N f arcs r hr.len (by omega) hN.2 hfr (fun a ha => (hV.ha a ha).1) (by omega)) ?_ rfl ?_
      · simp [net, li, lendsOk, lendOk, lends, lend, wkL, wk, wkB, pos]
      simp -implicitDefEqProofs only [qF, qI, qO, qP, qR, qV, zD, zJ, zL, zP, List.length_nil, List.length_cons, zQ, List.getD_eq_getElem?_getD, List.getElem?_cons_zero, ↓reduceIte, Nat.reduceEqDiff, Option.getD_some, List.append_nil, Nat.zero_add, Nat.reduceAdd, reduceCtorEq, List.map_cons, List.map_nil, List.drop_zero, List.take_nil, true_and, Nat.le_refl, ke, ki, jo, ↓jr, ↓ju, ↓jz, hvf]
      refine call_is (ok16 N arcs f t r (cutOf arcs N f r) hV) ?_ rfl ?_
      · simp [net, li, lb, lendsOk, lendOk, lends, lend, wkL, wk, wkB, pos]
      simp -implicitDefEqProofs only [qP, qQ, qR, qV, zd, zD, zJ, zL, zP, List.length_nil, List.length_cons, zQ, List.getD_eq_getElem?_getD, List.getElem?_cons_zero, ↓reduceIte, Nat.reduceEqDiff, Option.getD_some, zS, Bool.not_true, ↓zV, zW, Nat.zero_add, Nat.reduceAdd, reduceCtorEq, List.map_cons, List.map_nil, List.drop_zero, List.take_nil, true_and, Bool.false_eq_true, Nat.le_refl, ke, ki, ↓jr, ↓ju, ↓jz, hpr]
      refine call_is (ok15 N t arcs r hr.len (by omega) hN.2 hfr (fun a ha => (hV.ha a ha).1) (by omega)) ?_ rfl ?_
      · simp [net, li, lendsOk, lendOk, lends, lend, wkL, wk, wkB, pos]
      simp -implicitDefEqProofs only [qE, qF, qI, qJ, qO, qP, qQ, qR, qS, qV, qZ, ze, zD, zJ, zL, zP, List.length_nil, List.length_cons, zQ, List.getD_eq_getElem?_getD, List.getElem?_cons_zero, ↓reduceIte, Nat.reduceEqDiff, Option.getD_some, zR, zT, ↓zV, zW, List.append_nil, Nat.zero_add, Nat.reduceAdd, reduceCtorEq, List.map_cons, List.map_nil, List.drop_zero, List.take_nil, true_and, Bool.false_eq_true, Nat.le_refl, ke, ki, jo, ↓jr, ↓ju, ↓jz, ↓qaQ, hvt, hwr, bne_self_eq_false]
      refine call_is (ok17 N arcs f t other hV) ?_ rfl ?_
      · simp [net, li, lendsOk, lendOk, lends, lend, wkL, wk, wkB, pos]
      cases hck : decide (checkI N arcs f t other = 0) with
      | true =>
        have hck := of_decide_eq_true hck
        obtain ⟨_, hol, hop⟩ := check0 hck
        have hw := weak hV hE.1 hol hop (strong hV hE hr).1 (strong hV hE hr).2.1 (check_flow hck)
        rw [(strong hV hE hr).2.2, hvf] at hw
        have hwf : decide (d < valTo arcs f other arcs.length) = false := decide_eq_false (by omega)
        simp -implicitDefEqProofs only [qE, qF, qI, qJ, qO, qP, qQ, qR, qS, qV, qZ, zD, zJ, zL, zM, zP, ofConst, List.length_nil, List.length_cons, zQ, List.getD_eq_getElem?_getD, List.getElem?_cons_zero, ↓reduceIte, Nat.reduceEqDiff, Option.getD_some, zR, zT, Bool.not_true, ↓zU, ↓zV, zW, List.append_nil, Nat.zero_add, Nat.reduceAdd, reduceCtorEq, List.map_cons, List.map_nil, List.drop_zero, List.take_nil, true_and, Nat.le_refl, ke, ki, jo, ↓jr, ↓ju, ↓jz, ↓qaP, hck, beq_self_eq_true]
        refine call_is (ok15 N f arcs other hol (by omega) hN.2 (hV.flow hol hop) (fun a ha => (hV.ha a ha).1) (by omega)) ?_ rfl ?_
        · simp [net, li, lendsOk, lendOk, lends, lend, wkL, wk, wkB, pos]
        simp -implicitDefEqProofs only [qE, qF, qI, qJ, qO, qP, qQ, qR, qS, qZ, zD, zJ, zL, zP, List.length_nil, List.length_cons, ↓reduceIte, Nat.reduceEqDiff, zR, zT, ↓zU, ↓zV, zW, List.append_nil, Nat.zero_add, List.map_nil, true_and, jo, ↓qaT, hwf]
        refine call_is sanOk ?_ rfl ?_
        · simp [lendsOk, lendOk, lends, lend, wkL, wk, wkB, pos]
        simp -implicitDefEqProofs only [qN, qO, qP, qQ, qR, qS, qV, qX, qY, qZ, zb, zd, zD, zJ, zL, zM, zP, ofConst, List.length_nil, List.length_cons, zQ, List.getD_eq_getElem?_getD, List.getElem?_cons_zero, ↓reduceIte, Nat.reduceEqDiff, Option.getD_some, zR, zS, zT, Bool.not_false, ↓zU, ↓zV, zW, List.nil_append, Nat.zero_add, Nat.reduceAdd, Nat.add_zero, reduceCtorEq, zY, resP, tupV, List.reverse_cons, List.reverse_nil, wfV, List.map_cons, List.map_nil, List.drop_zero, List.take_nil, Bool.and_self, true_and, and_self, List.length_map, Bool.false_eq_true, Nat.le_refl, ke, ki, ↓jp, ↓jr, ↓jt, ↓ju, ↓jy, ↓jz, ↓jE, ↓jH, ↓jM, ↓qaQ, List.length_map, List.getElem_map, encB_0]
        intro hcm
        by_cases hc : (cut.length : Int) = N
        · have hcn : ((cut.length : Int) != N) = false := by simp [hc]
          have hc2 : cut.length = N := by omega
          simp -implicitDefEqProofs only [↓zV, hcn]
          refine ⟨by omega, by omega, ?_⟩
          cases h1 : cut[f.toNat]'(by omega) with
          | false =>
            simp -implicitDefEqProofs only [Bool.not_false, ↓zU]
          | true =>
            simp -implicitDefEqProofs only [Bool.not_true, ↓zV]
            refine ⟨by omega, by omega, ?_⟩
            cases h2 : cut[t.toNat]'(by omega) with
            | true =>
              simp -implicitDefEqProofs only [↓zU]
            | false =>
              simp -implicitDefEqProofs only [↓zV]
              refine call_is (ok18 N arcs cut hV hc2) ?_ rfl ?_
              · simp [net, lb, lendsOk, lendOk, lends, lend, wkL, wk, wkB, pos]
              have hw := weak hV hE.1 hr.len hr.pos (cut := cut) (t := t) (by rw [List.getD_eq_getElem?_getD, List.getElem?_eq_getElem (by omega)]; exact h1) (by rw [List.getD_eq_getElem?_getD, List.getElem?_eq_getElem (by omega)]; exact h2) (check_flow (grt_check he hr))
              rw [hvf] at hw
              have hwt : decide (d ≤ cutTo arcs cut arcs.length) = true := decide_eq_true hw
              simp -implicitDefEqProofs only [qN, qO, qP, qQ, qR, qS, qZ, zJ, zL, zP, ↓reduceIte, Nat.reduceEqDiff, zR, zT, ↓zU, ↓zV, zW, List.nil_append, zY, resP, tupV, List.reverse_cons, List.reverse_nil, wfV, Bool.and_self, and_self, Bool.false_eq_true, ↓qaU, hwt]
        · have hcn : ((cut.length : Int) != N) = true := by simp [hc]
          simp -implicitDefEqProofs only [↓zU, hcn]
      | false =>
        have hck2 : (checkI N arcs f t other == 0) = false := by simpa using hck
        simp -implicitDefEqProofs only [qE, qF, qI, qJ, qO, qP, qQ, qR, qS, qV, qZ, zD, zJ, zL, zM, zP, ofConst, List.length_nil, List.length_cons, zQ, List.getD_eq_getElem?_getD, List.getElem?_cons_zero, ↓reduceIte, Nat.reduceEqDiff, Option.getD_some, zR, zT, Bool.not_true, ↓zU, ↓zV, zW, List.append_nil, Nat.zero_add, Nat.reduceAdd, reduceCtorEq, List.map_cons, List.map_nil, List.drop_zero, List.take_nil, true_and, Nat.le_refl, ke, ki, jo, ↓jr, ↓ju, ↓jz, ↓qaP, hck2]
        refine call_is sanOk ?_ rfl ?_
        · simp [lendsOk, lendOk, lends, lend, wkL, wk, wkB, pos]
        simp -implicitDefEqProofs only [qN, qO, qP, qQ, qR, qS, qV, qX, qY, qZ, zb, zd, zD, zJ, zL, zM, zP, ofConst, List.length_nil, List.length_cons, zQ, List.getD_eq_getElem?_getD, List.getElem?_cons_zero, ↓reduceIte, Nat.reduceEqDiff, Option.getD_some, zR, zS, zT, Bool.not_false, ↓zU, ↓zV, zW, List.nil_append, Nat.zero_add, Nat.reduceAdd, Nat.add_zero, reduceCtorEq, zY, resP, tupV, List.reverse_cons, List.reverse_nil, wfV, List.map_cons, List.map_nil, List.drop_zero, List.take_nil, Bool.and_self, true_and, and_self, List.length_map, Bool.false_eq_true, Nat.le_refl, ke, ki, ↓jp, ↓jr, ↓jt, ↓ju, ↓jy, ↓jz, ↓jE, ↓jH, ↓jM, ↓qaQ, List.length_map, List.getElem_map, encB_0]
        intro hcm
        by_cases hc : (cut.length : Int) = N
        · have hcn : ((cut.length : Int) != N) = false := by simp [hc]
          have hc2 : cut.length = N := by omega
          simp -implicitDefEqProofs only [↓zV, hcn]
          refine ⟨by omega, by omega, ?_⟩
          cases h1 : cut[f.toNat]'(by omega) with
          | false =>
            simp -implicitDefEqProofs only [Bool.not_false, ↓zU]
          | true =>
            simp -implicitDefEqProofs only [Bool.not_true, ↓zV]
            refine ⟨by omega, by omega, ?_⟩
            cases h2 : cut[t.toNat]'(by omega) with
            | true =>
              simp -implicitDefEqProofs only [↓zU]
            | false =>
              simp -implicitDefEqProofs only [↓zV]
              refine call_is (ok18 N arcs cut hV hc2) ?_ rfl ?_
              · simp [net, lb, lendsOk, lendOk, lends, lend, wkL, wk, wkB, pos]
              have hw := weak hV hE.1 hr.len hr.pos (cut := cut) (t := t) (by rw [List.getD_eq_getElem?_getD, List.getElem?_eq_getElem (by omega)]; exact h1) (by rw [List.getD_eq_getElem?_getD, List.getElem?_eq_getElem (by omega)]; exact h2) (check_flow (grt_check he hr))
              rw [hvf] at hw
              have hwt : decide (d ≤ cutTo arcs cut arcs.length) = true := decide_eq_true hw
              simp -implicitDefEqProofs only [qN, qO, qP, qQ, qR, qS, qZ, zJ, zL, zP, ↓reduceIte, Nat.reduceEqDiff, zR, zT, ↓zU, ↓zV, zW, List.nil_append, zY, resP, tupV, List.reverse_cons, List.reverse_nil, wfV, Bool.and_self, and_self, Bool.false_eq_true, ↓qaU, hwt]
        · have hcn : ((cut.length : Int) != N) = true := by simp [hc]
          simp -implicitDefEqProofs only [↓zU, hcn]
theorem fn4 : ∀ xs, WfA [.st [.int .i64, .sl 4 (.st [.int .i64, .int .i64, .int .i64, .int .i64])], .int .i64, .int .i64, .sl 1 (.int .i64), .sl 1 .bool] xs → Fn Try.prog 4 xs [] [] (fun r _ => r = .b true) := by
  intro xs h
  obtain ⟨x1, _, rfl, h1, h⟩ := h
  obtain ⟨x2, _, rfl, h2, h⟩ := h
  obtain ⟨x3, _, rfl, h3, h⟩ := h
  obtain ⟨x4, _, rfl, h4, h⟩ := h
  obtain ⟨x5, _, rfl, h5, h⟩ := h
  obtain rfl : _ = [] := h
  obtain ⟨n, arcs, rfl⟩ := wf_net h1
  obtain ⟨f, rfl⟩ := wf_int h2
  obtain ⟨t, rfl⟩ := wf_int h3
  obtain ⟨flow, rfl⟩ := wf_li h4
  obtain ⟨cut, rfl⟩ := wf_lb h5
  exact Fn_post (ok4 n arcs f t flow cut).2 fun r h' h => h.1
end Go.Fx.F
namespace Go.Fx.F
open Go Go.Fx Go.Proofs
set_option maxRecDepth 20000
theorem cnt_all (rest : List Int) : ∀ n, cnt rest n ≤ n
  | 0 => Nat.le_refl _
  | n + 1 => by
    have := cnt_all rest n
    simp only [cnt]; split <;> omega
theorem begS_nil {arcs : List Arc} {N : Nat} : nilRows (List.replicate N [V.nil]) (begS arcs N 0) := by
  refine ⟨by simp [begS], fun i x y hx hy => ?_⟩
  rw [List.getElem?_replicate] at hx
  split at hx
  · rename_i hi
    simp only [Option.some.injEq] at hx
    subst hx
    rw [List.getElem?_eq_getElem (by rw [begS_len]; exact hi), begS_get] at hy
    simp only [Option.some.injEq] at hy
    subst hy
    refine ⟨rfl, fun j a b ha hb => ?_⟩
    cases j with
    | zero =>
      simp at ha hb
      subst ha hb
      exact .inr ⟨rfl, i + 4, rfl⟩
    | succ j => simp at ha
  · cases hx
theorem begB_zero {arcs : List Arc} {N : Nat} : List.replicate N (Blk.arr 1 []) = begB arcs N 0 := by
  apply List.ext_getElem
  · simp [begB]
  · intro i h1 h2
    simp [begB, fromN, rows]
theorem leH_beg0 {arcs : List Arc} {N k : Nat} : leH (begB arcs N k) (begB arcs N k) := by
  have := leH_beg (arcs := arcs) (N := N) (k := k) (l := [])
  rwa [List.append_nil] at this
/-- What Paths finds. -/
def pathsV (ws : List (List Nat)) (ns : List Int) (e : Int) : V := .tup [.ro 1 (wrows ws), .ro 1 (ns.map encI), .i e]
theorem flow_Fv {N : Nat} {arcs : List Arc} {f t : Int} {flow : List Int} (hV : Val N arcs) (h : checkI N arcs f t flow = 0) : Fv N arcs f t flow := by
  obtain ⟨_, h1, h2⟩ := check0 h
  refine ⟨h1, fun q => ?_, check_flow h⟩
  by_cases hq : q < arcs.length
  · have := (poss_iff h1).1 h2 q hq
    have := caps_in hV q
    omega
  · simp [List.getD_eq_getElem?_getD, List.getElem?_eq_none (show flow.length ≤ q by omega)]
theorem ok22 (N : Nat) (arcs : List Arc) (f t : Int) (flow : List Int) (wsT : List (List Nat)) (nsT : List Int) (hV : Val N arcs) (hc : checkI N arcs f t flow = 0) (hR : PR N arcs f t flow wsT nsT) : Ok 22 [.agg [.i N, .ro 4 (arcs.map Arc.enc)], .i f, .i t, li flow] (Is (pathsV wsT nsT 0)) := by
  have hN := hV.hn
  have hL := hV.hl
  obtain ⟨he, hfl, hfp⟩ := check0 hc
  have hE : (0 ≤ f ∧ f < N) ∧ (0 ≤ t ∧ t < N) ∧ f ≠ t := by simpa [endsB] using he
  have hF := flow_Fv hV hc
  have h00 : ((0 : Int) != 0) = false := rfl
  refine ⟨rlF_callable lw22, Fn_give (R := fun q hs => wk (pathsV wsT nsT 0) (gvV (fun _ => true) hs q)) ?_ fun _ _ h => h⟩
  refine (ok_of lw22 (by simp) ?_).2
  unfold c22
  simp -implicitDefEqProofs only [qF, qI, qO, qP, qR, qT, qV, zD, zJ, zL, zM, zP, ofConst, cells?, List.length_nil, List.length_cons, List.set_cons_zero, zQ, List.getD_eq_getElem?_getD, List.getElem?_cons_zero, ↓reduceIte, Nat.reduceEqDiff, Option.getD_some, List.nil_append, List.append_nil, Nat.zero_add, Nat.reduceAdd, Nat.add_zero, reduceCtorEq, freshP, List.map_cons, List.map_nil, List.drop_zero, List.take_nil, true_and, Nat.le_refl, ke, kf, ki, jo, ↓jp, ↓jr, ↓ju, ↓jz, args0, li]
  refine call_is (ok17 N arcs f t flow hV) ?_ rfl ?_
  · simp [net, li, lendsOk, lendOk, lends, lend, wkL, wk, wkB, pos]
  rw [hc]
  simp -implicitDefEqProofs only [qE, qF, qI, qJ, qN, qO, qP, qR, qZ, zD, zJ, zL, zM, zP, ofConst, List.length_nil, List.length_cons, ↓reduceIte, Nat.reduceEqDiff, zR, zT, ↓zV, List.nil_append, List.cons_append, List.append_nil, Nat.zero_add, reduceCtorEq, List.map_cons, List.map_nil, true_and, kf, jo, ↓qaQ, h00]
  refine call_isA [.bro 1 (flow.map encI)] _ (.sl 2 0 flow.length) _ [.arr 1 (flow.map encI)] (ok45 flow (by omega)) ?_ rfl rfl ?_
  · simp [lendsOk, lendOk, lends, lend, wkL, wk, wkB, pos]
  simp -implicitDefEqProofs only [qF, qI, qK, qL, qO, qP, qR, qU, qV, qW, qX, zb, zu, zJ, zK, zL, zM, zP, ofConst, cells?, List.length_nil, List.length_cons, List.set_cons_zero, splice, zQ, List.getD_eq_getElem?_getD, List.getElem?_cons_zero, ↓reduceIte, Nat.reduceEqDiff, Option.getD_some, zR, List.nil_append, List.cons_append, List.append_nil, Nat.zero_add, Nat.reduceAdd, Nat.add_zero, freshP, List.map_cons, List.map_nil, List.take_zero, List.drop_nil, List.all_cons, List.all_nil, isC, Bool.and_true, Bool.and_self, true_and, and_true, and_self, List.not_mem_nil, List.length_map, not_false_eq_true, Nat.le_refl, lg0, ka, kc, kf, lg1, kg, lg2, kk, jo, ↓jp, ↓jr, ↓ju, ↓jy, ↓jA, ↓jB, ↓jE, ↓jM, List.length_map, Int.toNat_natCast, cx0_bn, cx0_fx]
  refine ⟨⟨⟨by omega, by omega⟩, by omega, by omega⟩, fun _ => ?_⟩
  refine loopP_ghost (.virt N 1 (by decide) (.nilW 3 1 (List.replicate N [V.nil]) (begS arcs N 0) rfl begS_nil (.refl _))) (pat7 N arcs flow f t) (fun k => k ≤ arcs.length) (fun k => arcs.length - k) 0 (Nat.zero_le _) ?_ (body22a N arcs flow f t hV ?_)
  · unfold pat7 envP hp4
    simp -implicitDefEqProofs only [zP, List.set_cons_zero, List.getElem?_cons_zero, ↓reduceIte, Nat.reduceEqDiff, List.nil_append, List.cons_append, reduceCtorEq, zZ, leE, leH, leB, leV, leVs, keepP, liveP, wfE, wfB, wfV, wfL, Bool.and_self, and_self, lg0, ka, lg1, kg, lg2, kk, leVs, leV, Int.natCast_zero, begB_zero (arcs := arcs), eq_true leH_beg0, eq_true begS_wf, eq_true begB_wf]
  intro b y z
  unfold envP hp4
  have hvb := val_in2 hF
  simp only [↓reduceIte]
  simp -implicitDefEqProofs only [qF, qI, qO, qP, qR, qV, zD, zJ, zL, zM, zP, ofConst, List.length_nil, List.length_cons, zQ, List.getD_eq_getElem?_getD, List.getElem?_cons_zero, ↓reduceIte, Nat.reduceEqDiff, Option.getD_some, List.append_nil, Nat.zero_add, Nat.reduceAdd, List.map_cons, List.map_nil, List.drop_zero, List.take_nil, true_and, Nat.le_refl, ke, ki, jo, ↓jr, ↓ju, ↓jz]
  refine call_is (ok15 N f arcs flow hfl (by omega) hN.2 (hV.flow hfl hfp) (fun a ha => (hV.ha a ha).1) (by omega)) ?_ rfl ?_
  · simp [net, li, lendsOk, lendOk, lends, lend, wkL, wk, wkB, pos]
  simp -implicitDefEqProofs only [qE, qI, qK, qL, qO, qP, qR, zJ, zL, zP, ↓reduceIte, cx0_fx]
  refine loopP_ghost (.give (fun k => decide (4 ≤ k)) (by simp) (.le (p := ⟨[(18, .i (valTo arcs f flow arcs.length)), (17, .nil), (16, .nil), (13, .sl 3 0 N), (12, .ptr 1 0 0), (4, .ptr 0 0 0), (2, .i t), (1, .i f)], hp4 N arcs flow (begR arcs N) [], 0⟩) ?_ (.virt 2 1 (by decide) (.nilE 17 5 rfl (.nilE 16 4 rfl (.refl _))))))
    (fun g : List Int × List (List Nat) × List Int => patO N arcs f t g.1 g.2.1 g.2.2) (fun g => InP N arcs f t wsT nsT g.1 g.2.1 g.2.2) (fun g => cnt g.1 arcs.length) (flow, [], []) ⟨hF, ⟨wsT, nsT, hR, rfl, rfl⟩, by have := cnt_all flow arcs.length; simpa using this⟩ ?_ (body22b N arcs f t wsT nsT hV hE.1 hE.2.2 ?_)
  · unfold hp4
    simp -implicitDefEqProofs only [zP, List.getElem?_cons_zero, ↓reduceIte, Nat.reduceEqDiff, Nat.zero_add, Nat.reduceAdd, zZ, leE, leH, leB, leV, leVs, keepP, liveP, wfE, wfB, wfV, wfL, Bool.and_self, and_self, Bool.false_eq_true, Nat.reduceLeDiff, lg0, lg1, lg2, leVs, leV, St.give, gvE, gvV, gvH, gvB, gvL, begS_give, eq_true begR_wf, decide_false]
  · unfold patO envO hp4
    simp -implicitDefEqProofs only [zP, List.length_nil, List.getElem?_cons_zero, ↓reduceIte, Nat.reduceEqDiff, List.nil_append, List.cons_append, zZ, leE, leH, leB, leV, leVs, keepP, liveP, wfE, wfB, wfV, wfL, List.map_nil, Bool.and_self, and_self, lg0, kf, lg1, kj, lg2, lg3, lg4, jo, leVs, leV, eq_true begR_wf, wrows, List.map_nil]
  intro rest b2 y2 z2
  unfold patO envO hp4
  simp only [↓reduceIte]
  simp -implicitDefEqProofs only [qF, qI, qN, qO, qP, qR, zJ, zL, zM, zP, ofConst, List.length_nil, List.length_cons, ↓reduceIte, Nat.reduceEqDiff, List.nil_append, List.cons_append, List.append_nil, Nat.zero_add, Nat.reduceAdd, resP, tupV, List.reverse_cons, List.reverse_nil, keepP, liveP, wfV, wfL, Bool.and_true, Bool.and_self, true_and, and_true, and_self, jo, retP_eq]
  refine ⟨[.dead, .dead, .dead, .dead, .arr 1 (wrows wsT), .arr 1 (nsT.map encI)], ⟨by simp [leH, leB], by simp, by simp [wfV, wfL, liveP], by simp [wfB]⟩, ?_⟩
  have e1 : List.take wsT.length (wrows wsT) = wrows wsT := List.take_of_length_le (by rw [wrows_len]; exact Nat.le_refl _)
  have e2 : List.take nsT.length (nsT.map encI) = nsT.map encI := take_enc rfl
  simp [pathsV, gvV, gvL, wk, wkL, wkR, blk, e1, e2, wrows_len]
theorem ok22e (N : Nat) (arcs : List Arc) (f t : Int) (flow : List Int) (hV : Val N arcs) (hc : checkI N arcs f t flow ≠ 0) : Ok 22 [.agg [.i N, .ro 4 (arcs.map Arc.enc)], .i f, .i t, li flow] (Is (pathsV [] [] (checkI N arcs f t flow))) := by
  have h00 : (checkI N arcs f t flow != 0) = true := by simpa using hc
  refine ⟨rlF_callable lw22, Fn_give (R := fun q hs => wk (pathsV [] [] (checkI N arcs f t flow)) (gvV (fun _ => true) hs q)) ?_ fun _ _ h => h⟩
  refine (ok_of lw22 (by simp) ?_).2
  unfold c22
  simp -implicitDefEqProofs only [qF, qI, qO, qP, qR, qT, qV, zD, zJ, zL, zM, zP, ofConst, cells?, List.length_nil, List.length_cons, List.set_cons_zero, zQ, List.getD_eq_getElem?_getD, List.getElem?_cons_zero, ↓reduceIte, Nat.reduceEqDiff, Option.getD_some, List.nil_append, List.append_nil, Nat.zero_add, Nat.reduceAdd, Nat.add_zero, reduceCtorEq, freshP, List.map_cons, List.map_nil, List.drop_zero, List.take_nil, true_and, Nat.le_refl, ke, kf, ki, jo, ↓jp, ↓jr, ↓ju, ↓jz, args0, li]
  refine call_is (ok17 N arcs f t flow hV) ?_ rfl ?_
  · simp [net, li, lendsOk, lendOk, lends, lend, wkL, wk, wkB, pos]
  simp -implicitDefEqProofs only [qE, qF, qI, qJ, qN, qO, qP, qR, qZ, zD, zJ, zL, zM, zP, ofConst, List.length_nil, List.length_cons, ↓reduceIte, Nat.reduceEqDiff, zR, zT, ↓zU, List.nil_append, List.cons_append, List.append_nil, Nat.zero_add, reduceCtorEq, resP, tupV, List.reverse_cons, List.reverse_nil, keepP, wfV, wfL, List.map_cons, List.map_nil, Bool.and_self, true_and, and_self, kf, jo, ↓qaQ, h00, retP_eq]
  refine ⟨[], ⟨trivial, by simp, trivial⟩, ?_⟩
  simp [pathsV, gvV, gvL, wk, wkL, wkR, wrows]
end Go.Fx.F
namespace Go.Fx.F
open Go Go.Fx Go.Proofs
set_option maxRecDepth 20000
theorem call_isF {cx : Cx} {f : FuncId} {args : List V} {e : Env} {h : List Blk} {b : Nat} {K : V → St → Prop} {xs : List V} {x : V} (hC : cx.C f xs [] [] (Is x)) (h1 : lendsOk h (fun _ => none) args ∧ wkL xs (lends h (fun _ => none) args))
    (hx : ren (fun j => some (h.length + j)) x = x) (keep : keepP cx.fx h) (h3 : K x ⟨e, h, b⟩) : callP cx f args ⟨e, h, b⟩ K := by
  refine callP_pure xs (Is x) h1 hC ?_
  rintro r h' ⟨rfl, rfl⟩
  simp only [List.map_nil, List.append_nil]
  exact ⟨keep, by rw [hx]; exact h3⟩
def hp50 (N : Nat) (arcs : List Arc) (rest : List Int) (way : List Nat) : List Blk := [.arr 1 (rest.map encI), .var [.i N, .ro 4 (arcs.map Arc.enc)], .arr 1 (rows way)]
def pat50 (N : Nat) (arcs : List Arc) (f t : Int) (rest : List Int) (way : List Nat) (at_ : Int) : St :=
  ⟨[(10, .i at_), (9, .sl 2 0 way.length), (4, .ptr 1 0 0), (3, .sl 0 0 rest.length), (2, .i t), (1, .i f)], hp50 N arcs rest way, 0⟩
structure In50 (N : Nat) (arcs : List Arc) (f t : Int) (restT : List Int) (wT : List Nat) (rest : List Int) (way : List Nat) (at_ : Int) : Prop where
  fv : Fv N arcs f t rest
  pos : 0 < valTo arcs f rest arcs.length
  run : PW N arcs f t rest restT wT
  wv : Wv N arcs f rest way at_
  att : att arcs t (N + 1 - way.length) rest way at_ = att arcs t (N + 1) rest [] f
theorem body50 (N : Nat) (arcs : List Arc) (f t : Int) (restT : List Int) (wT : List Nat) (hV : Val N arcs) (hf : 0 ≤ f ∧ f < N) (hft : f ≠ t) {RR : St → Prop} {X : Nat → St → Prop}
    (hX : ∀ b x y z, X 0 ⟨(16, x) :: (15, y) :: (14, z) :: (pat50 N arcs f t restT wT t).e, (pat50 N arcs f t restT wT t).h, b⟩)
    (g : List Int × List Nat × Int) (hI : In50 N arcs f t restT wT g.1 g.2.1 g.2.2) :
    aw (cxN [0]) c50l0 (fun s' => ∃ g' : List Int × List Nat × Int, (In50 N arcs f t restT wT g'.1 g'.2.1 g'.2.2 ∧ cnt g'.1 arcs.length * (N + 2) + (N + 1 - g'.2.1.length) < cnt g.1 arcs.length * (N + 2) + (N + 1 - g.2.1.length)) ∧ leG (cxN [0]).fx s' (pat50 N arcs f t g'.1 g'.2.1 g'.2.2)) X RR (pat50 N arcs f t g.1 g.2.1 g.2.2) := by
  obtain ⟨rest, way, at_⟩ := g
  obtain ⟨hF, hv, hP, hW, ha⟩ := hI
  simp only at hF hv hP hW ha
  have hL := hV.hl
  have hN := hV.hn
  have hwl := hW.len hV
  obtain ⟨m, hm⟩ : ∃ m, N + 1 - way.length = m + 1 := ⟨N - way.length, by omega⟩
  have ha0 := ha
  generalize hA : att arcs t (N + 1) rest [] f = A at *
  rw [hm] at ha
  unfold att at ha
  unfold c50l0 pat50 hp50
  by_cases hat : at_ = t
  · subst hat
    rw [if_pos rfl] at ha
    simp -implicitDefEqProofs only [qF, qI, qJ, qM, qO, qP, qR, qZ, zJ, zL, zP, List.length_nil, List.length_cons, ↓reduceIte, Nat.reduceEqDiff, zR, zT, ↓zV, List.append_nil, Nat.zero_add, Nat.reduceAdd, true_and, jo, ↓qaQ, cxN, bne_self_eq_false]
    obtain ⟨e1, e2⟩ := (PW.way (hA.trans ha.symm)).det hP
    subst e1 e2
    have := hX 3 (.b false) (.i at_) (.i at_)
    unfold pat50 hp50 at this
    exact this
  · rw [if_neg hat] at ha
    have hne : (at_ != t) = true := by simpa using hat
    obtain ⟨i, hi⟩ := first_ex hF hv hW hat
    rw [hi] at ha
    simp only at ha
    have hi2 := first_is hi
    have hW2 := hW.half hi
    have htr : List.take rest.length (rest.map encI) = rest.map encI := take_enc rfl
    simp -implicitDefEqProofs only [qE, qF, qI, qJ, qK, qO, qP, qR, qV, qZ, zD, zJ, zL, zP, List.length_nil, List.length_cons, zQ, List.getD_eq_getElem?_getD, List.getElem?_cons_zero, ↓reduceIte, Nat.reduceEqDiff, Option.getD_some, zR, zT, ↓zU, List.append_nil, Nat.zero_add, Nat.reduceAdd, List.map_cons, List.map_nil, List.drop_zero, List.take_nil, true_and, Nat.le_refl, lg0, ke, ki, jo, ↓jr, ↓ju, ↓jz, ↓qaQ, cxN, hne]
    refine call_isF (ok59 N arcs rest at_ hF.len (by omega)) ?_ rfl ⟨trivial, trivial⟩ ?_
    · simp [net, li, lendsOk, lendOk, lends, lend, wkL, wk, wkB, blk, htr]
    have hge : decide ((i : Int) < 0) = false := decide_eq_false (by omega)
    rw [hi]
    simp -implicitDefEqProofs only [qE, qF, qI, qJ, qN, qO, qP, qR, qV, qX, qY, qZ, zp, zr, zD, zJ, zL, zM, zP, ofConst, cells?, List.length_nil, List.length_cons, List.set_cons_zero, zQ, List.getD_eq_getElem?_getD, List.getElem?_cons_zero, ↓reduceIte, Nat.reduceEqDiff, Option.getD_some, zR, zT, ↓zV, List.nil_append, List.cons_append, List.append_nil, Nat.zero_add, Nat.reduceAdd, Nat.add_zero, reduceCtorEq, freshP, litsP, killE, killB, kill, kills, St.kill, List.map_cons, List.map_nil, List.drop_zero, List.take_nil, List.all_cons, List.all_nil, isD, Bool.and_true, Bool.and_self, true_and, and_true, and_self, List.mem_cons, List.not_mem_nil, or_false, false_or, List.length_map, not_false_eq_true, Nat.reduceLT, Nat.le_refl, lg0, ka, ke, kf, lg1, kg, ki, kj, lg2, kk, jo, ↓jp, ↓jr, ↓jt, ↓ju, ↓jy, ↓jz, ↓jE, ↓jF, ↓jH, ↓jW, ↓jX, ↓qan, ↓qao, ↓qaR, List.length_map, List.getElem_map, enc_1, Int.toNat_natCast, zI, hge]
    have hgi : gA arcs i = arcs[i]'hi2.1 := getD_nil (a := ⟨0,0,0,0⟩) hi2.1
    have hrow : List.take way.length (rows way) ++ [[V.v (.int .i64 (i : Int))]] = rows (way ++ [i]) := by
      rw [rows_take (Nat.le_refl _), rows_snoc]; rfl
    refine ⟨⟨by rw [rows_len]; omega, by omega⟩, ⟨by omega, by omega⟩, hi2.1, ?_⟩
    rw [hrow, ← hgi]
    have hlen : (way ++ [i]).length = way.length + 1 := by simp
    generalize hwi : way ++ [i] = w2 at *
    generalize hto : (gA arcs i).to = to2 at *
    have htk : List.take (way.length + 1) (rows w2) = rows w2 := rows_take (by omega)
    refine call_isF (ok60 N arcs w2 to2 (fun j hj => (hW2.2.1 j hj).1) (by omega) (by omega)) ?_ rfl ⟨trivial, trivial⟩ ?_
    · simp [net, lendsOk, lendOk, lends, lend, wkL, wk, wkB, blk, htk, rows_len, hlen]
    cases hs : seenI arcs w2 to2 with
    | some k2 =>
      rw [hs] at ha
      simp only at ha
      obtain ⟨hk2, g1, _⟩ := seen_is hs
      have hd := isW_drop hW2.1 hk2
      rw [g1] at hd
      have hne2 : w2.drop k2 ≠ [] := by
        intro e
        have := congrArg List.length e
        rw [List.length_drop, List.length_nil] at this
        omega
      have hnd : (w2.drop k2).Nodup := List.Nodup.sublist (List.drop_sublist _ _) (nodup_of_map hW2.2.2)
      have e51 := ok51 rest (w2.drop k2) hF.rng hne2 hnd (fun j hj => by rw [hF.len]; exact (hW2.2.1 j (List.mem_of_mem_drop hj)).1) (by have := hF.len; omega) (by simp; omega)
      have hge2 : decide ((0 : Int) ≤ (k2 : Int)) = true := by simp
      simp -implicitDefEqProofs only [qE, qF, qI, qJ, qO, qP, qR, qZ, zj, zD, zJ, zL, zM, zP, ofConst, List.length_nil, List.length_cons, zQ, List.getD_eq_getElem?_getD, List.getElem?_cons_zero, ↓reduceIte, Nat.reduceEqDiff, Option.getD_some, zR, arrSz, zT, ↓zU, List.append_nil, Nat.zero_add, Nat.reduceAdd, Option.map_some, Option.map_none, slcOk, Option.getD_none, List.map_cons, List.map_nil, Bool.and_self, true_and, and_self, lg0, lg1, jo, ↓qac, ↓qad, ↓qae, ↓qaU, Int.toNat_natCast, zI, hge2]
      refine ⟨by omega, ?_⟩
      have htk2 : List.take (way.length + 1 - k2) (List.drop k2 (rows w2)) = rows (w2.drop k2) := by
        rw [rows_drop]; exact rows_take (by simp; omega)
      refine call_isN [0] [.sl 0 0 rest.length, .bro 1 (rows (w2.drop k2))] (.i (tkN rest (w2.drop k2))) (.i (tkN rest (w2.drop k2))) _ _ [.arr 1 ((tkR rest (w2.drop k2)).map encI), .var [.i N, .ro 4 (arcs.map Arc.enc)], .arr 1 (rows w2), .arr 1 [[V.v (.int .i64 (i : Int))]], .dead] e51 (by simp) rfl (by simp [lendsOk, lendOk, lends, lend, wkL, wk, wkB, pos, blk, htk2, rows_len, hlen]; omega) (by simp [takeH]) rfl rfl ⟨trivial, trivial⟩ ?_
      simp -implicitDefEqProofs only [qF, qI, qO, qP, qR, zJ, zL, zM, zP, ofConst, List.length_nil, List.length_cons, ↓reduceIte, Nat.reduceEqDiff, List.append_nil, Nat.zero_add, Nat.reduceAdd, jo]
      have hw := att_ok hV hft hF hv (N + 1) [] f (Wv.begin hf rest) (by simp)
      rw [hA, ← ha] at hw
      rcases hw with ⟨w, h1, _⟩ | ⟨rest2, h1, h2, h3, h4⟩
      · simp at h1
      simp only [Prod.mk.injEq, and_true] at h1
      subst h1
      refine ⟨(tkR rest (w2.drop k2), [], f), ⟨⟨h2, by show 0 < valTo arcs f (tkR rest (w2.drop k2)) arcs.length; rw [h3]; exact hv, ?_, Wv.begin hf _, rfl⟩, ?_⟩, _, .give (fun k => k == 2 || k == 3) (by simp) (.virtAt 2 1 (by decide) rfl (.nilE 9 2 rfl (.refl _))), ?_⟩
      · cases hP with
        | way g => rw [hA, ← ha] at g; simp at g
        | circ g g2 =>
          rw [hA, ← ha] at g
          simp only [Prod.mk.injEq, and_true] at g
          subst g
          exact g2
      · show cnt (tkR rest (w2.drop k2)) arcs.length * (N + 2) + (N + 1 - 0) < cnt rest arcs.length * (N + 2) + (N + 1 - way.length)
        have : (cnt (tkR rest (w2.drop k2)) arcs.length + 1) * (N + 2) ≤ cnt rest arcs.length * (N + 2) := Nat.mul_le_mul_right _ h4
        rw [Nat.add_mul] at this
        omega
      · simp -implicitDefEqProofs only [zP, List.length_nil, List.length_cons, List.set_cons_zero, zQ, List.getD_eq_getElem?_getD, List.getElem?_cons_zero, ↓reduceIte, Nat.reduceEqDiff, Option.getD_some, Nat.zero_add, Nat.reduceAdd, zZ, leE, leH, leB, leV, leVs, keepP, liveP, wfE, wfB, wfV, wfL, List.map_nil, List.drop_zero, List.take_nil, Bool.and_self, and_self, or_false, List.length_map, Bool.false_eq_true, Nat.le_refl, lg0, ka, ke, lg1, kg, lg2, List.length_map, leVs, leV, St.give, gvE, gvV, gvH, gvB, gvL, Nat.reduceBEq, Bool.or_self, Bool.or_true, Bool.or_false, tkR_len, rows, List.map_nil]
    | none =>
      rw [hs] at ha
      simp only at ha
      have hge2 : decide ((0 : Int) ≤ -1) = false := rfl
      simp -implicitDefEqProofs only [qE, qF, qI, qJ, qO, qP, qR, qZ, zj, zD, zJ, zL, zM, zP, ofConst, List.length_nil, List.length_cons, zQ, List.getD_eq_getElem?_getD, List.getElem?_cons_zero, ↓reduceIte, Nat.reduceEqDiff, Option.getD_some, zR, arrSz, zT, ↓zV, List.append_nil, Nat.zero_add, Nat.reduceAdd, Option.map_some, Option.map_none, slcOk, Option.getD_none, List.map_cons, List.map_nil, Bool.and_self, true_and, and_self, lg0, lg1, jo, ↓qac, ↓qad, ↓qae, ↓qaU, Int.toNat_natCast, zI, hge2]
      have hW3 : Wv N arcs f rest w2 to2 := ⟨hW2.1, hW2.2.1, hW2.2.2, seen_no hs, by rw [← hto]; exact (val_in hV hi2.1).2⟩
      refine ⟨(rest, w2, to2), ⟨⟨hF, hv, hP, hW3, ?_⟩, ?_⟩, _, .refl _, ?_⟩
      · show att arcs t (N + 1 - w2.length) rest w2 to2 = _
        rw [hA, ← ha]; congr 1; omega
      · show cnt rest arcs.length * (N + 2) + (N + 1 - w2.length) < cnt rest arcs.length * (N + 2) + (N + 1 - way.length)
        omega
      · simp -implicitDefEqProofs only [zP, List.getElem?_cons_zero, ↓reduceIte, Nat.reduceEqDiff, zZ, leE, leH, leB, leV, leVs, keepP, liveP, wfE, wfB, wfV, wfL, Bool.and_self, and_self, lg0, lg1, leVs, leV, hlen]
theorem ok50 (N : Nat) (arcs : List Arc) (f t : Int) (rest restT : List Int) (wT : List Nat) (hV : Val N arcs) (hf : 0 ≤ f ∧ f < N) (hft : f ≠ t) (hF : Fv N arcs f t rest) (hv : 0 < valTo arcs f rest arcs.length) (hP : PW N arcs f t rest restT wT) :
    OkN 50 [.agg [.i N, .ro 4 (arcs.map Arc.enc)], .i f, .i t, .sl 0 0 rest.length] (takeH rest) (IsA (.sl 2 0 wT.length) [.arr 1 (restT.map encI), .dead, .arr 1 (rows wT)]) := by
  refine okN_of [0] lw50 (by simp) ⟨trivial, trivial⟩ rfl ?_
  unfold c50 takeH
  simp -implicitDefEqProofs only [qF, qI, qK, qL, qO, qP, qR, qT, zJ, zL, zM, zP, ofConst, cells?, List.length_nil, List.length_cons, List.set_cons_zero, List.getElem?_cons_zero, ↓reduceIte, Nat.reduceEqDiff, List.nil_append, List.cons_append, List.append_nil, Nat.zero_add, Nat.reduceAdd, Nat.add_zero, reduceCtorEq, freshP, true_and, lg0, ka, kf, jo, ↓jp, args0, cxN]
  refine loopP_back (fun g : List Int × List Nat × Int => pat50 N arcs f t g.1 g.2.1 g.2.2) (fun g => In50 N arcs f t restT wT g.1 g.2.1 g.2.2) (fun g => cnt g.1 arcs.length * (N + 2) + (N + 1 - g.2.1.length)) (rest, [], f) ⟨hF, hv, hP, Wv.begin hf rest, rfl⟩ ?_ (body50 N arcs f t restT wT hV hf hft ?_)
  · refine ⟨_, .virt 1 1 (by decide) (.nilE 9 2 rfl (.refl _)), ?_⟩
    unfold pat50 hp50
    simp -implicitDefEqProofs only [zP, List.length_nil, List.getElem?_cons_zero, ↓reduceIte, Nat.reduceEqDiff, List.nil_append, List.cons_append, reduceCtorEq, zZ, leE, leH, leB, leV, leVs, keepP, liveP, wfE, wfB, wfV, wfL, List.map_nil, Bool.and_self, and_self, lg0, kf, lg1, jo, leVs, leV, rows, List.map_nil]
  intro b x y z
  unfold pat50 hp50
  simp only [↓reduceIte]
  simp -implicitDefEqProofs only [qF, qI, qN, qO, qP, qR, zJ, zL, zP, List.length_nil, List.length_cons, List.getElem?_cons_zero, ↓reduceIte, Nat.reduceEqDiff, List.nil_append, List.append_nil, Nat.zero_add, Nat.reduceAdd, resP, tupV, List.reverse_cons, List.reverse_nil, leH, leB, keepP, liveP, wfB, wfV, Bool.and_self, and_self, Nat.reduceLeDiff, lg0, lg1, jo, retP_isA]
end Go.Fx.F
namespace Go.Fx.F
open Go Go.Fx Go.Proofs
set_option maxRecDepth 20000
def pathsG (ws : List (List Nat)) (ns : List Int) (e : Int) : V := .agg [.ro 1 (wrows ws), .ro 1 (ns.map encI), .i e]
def pat23 (N : Nat) (arcs : List Arc) (f t : Int) (rest : List Int) (ws : List (List Nat)) (ns : List Int) : St :=
  ⟨[(11, .ptr 4 0 0), (10, .sl 2 0 rest.length), (8, .ptr 1 0 0), (4, .ptr 0 0 0), (2, .i t), (1, .i f)],
    [.var [.i N, .ro 4 (arcs.map Arc.enc)], .var [.nil, .nil, .i 0], .arr 1 (rest.map encI), .dead, .var [.sl 5 0 ws.length, .sl 6 0 ns.length, .i 0], .arr 1 (wrows ws), .arr 1 (ns.map encI)], 0⟩
theorem body23 (N : Nat) (arcs : List Arc) (f t : Int) (wsT : List (List Nat)) (nsT : List Int) (hV : Val N arcs) (hf : 0 ≤ f ∧ f < N) (hft : f ≠ t) {RR : St → Prop} {X : Nat → St → Prop}
    (hX : ∀ rest b x1 x2 x3 x4 x5, X 0 ⟨(29, x1) :: (28, x2) :: (27, x3) :: (26, x4) :: (25, x5) :: (pat23 N arcs f t rest wsT nsT).e, (pat23 N arcs f t rest wsT nsT).h, b⟩)
    (g : List Int × List (List Nat) × List Int) (hI : InP N arcs f t wsT nsT g.1 g.2.1 g.2.2) :
    aw cx0 c23l0 (fun s' => ∃ g' : List Int × List (List Nat) × List Int, (InP N arcs f t wsT nsT g'.1 g'.2.1 g'.2.2 ∧ cnt g'.1 arcs.length < cnt g.1 arcs.length) ∧ leS cx0.fx s' (pat23 N arcs f t g'.1 g'.2.1 g'.2.2)) X RR (pat23 N arcs f t g.1 g.2.1 g.2.2) := by
  obtain ⟨rest, ws, ns⟩ := g
  obtain ⟨hF, ⟨ws', ns', hR, hws, hns⟩, hln⟩ := hI
  simp only at hF hR hws hns hln
  have hL := hV.hl
  have hN := hV.hn
  have htr : List.take rest.length (rest.map encI) = rest.map encI := take_enc rfl
  have hbr : ∀ x ∈ rest, 0 ≤ x ∧ x ≤ 1073741824 := fun x hx => by
    obtain ⟨i, hi, rfl⟩ := List.getElem_of_mem hx
    have := hF.rng i
    rw [List.getD_eq_getElem?_getD, List.getElem?_eq_getElem hi] at this
    exact this
  unfold c23l0 pat23
  simp -implicitDefEqProofs only [qF, qI, qP, qR, qV, zD, zJ, zL, zP, List.length_nil, List.length_cons, zQ, List.getD_eq_getElem?_getD, List.getElem?_cons_zero, ↓reduceIte, Nat.reduceEqDiff, Option.getD_some, List.append_nil, Nat.zero_add, Nat.reduceAdd, List.map_cons, List.map_nil, List.drop_zero, List.take_nil, true_and, Nat.le_refl, ke, ki, jo, ↓jr, ↓ju, ↓jz, cx0_fx]
  refine call_is (ok30 N f arcs rest hF.len (by omega) hbr) ?_ rfl ?_
  · simp [net, li, lendsOk, lendOk, lends, lend, wkL, wk, wkB, pos, blk, htr]
  by_cases hv : 0 < valTo arcs f rest arcs.length
  · have hvt : decide (0 < valTo arcs f rest arcs.length) = true := decide_eq_true hv
    simp -implicitDefEqProofs only [qE, qF, qI, qJ, qK, qM, qO, qP, qR, qV, qZ, zD, zJ, zL, zM, zP, ofConst, List.length_nil, List.length_cons, zQ, List.getD_eq_getElem?_getD, List.getElem?_cons_zero, ↓reduceIte, Nat.reduceEqDiff, Option.getD_some, zR, zT, ↓zU, List.append_nil, Nat.zero_add, Nat.reduceAdd, List.map_cons, List.map_nil, List.drop_zero, List.take_nil, true_and, Nat.le_refl, ke, ki, jo, ↓jr, ↓ju, ↓jz, ↓qaT, hvt]
    cases hR with
    | stop h => omega
    | @step _ rest1 way ws2 ns2 h hP hR2 =>
    obtain ⟨r1, w1, k1, k2, k3, k4, k5, k6, k7, k8⟩ := PW.ok hV hf hft _ rest (Nat.le_refl _) hF hv
    obtain ⟨e1, e2⟩ := k1.det hP
    subst e1 e2
    have hto := take_ok k2 k6 k5 k7 k8
    have hFv := take_Fv k2 k6 k5 k7 k8 (.inr ⟨rfl, rfl⟩)
    have hlr : r1.length = rest.length := by rw [k2.len, hF.len]
    have hwl : w1.length ≤ arcs.length := by
      have := nodup_le (l := w1.map Int.ofNat) arcs.length (by
        rw [List.nodup_iff_pairwise_ne, List.pairwise_map]
        exact List.Pairwise.imp (fun h e => h (Int.ofNat.inj e)) (List.nodup_iff_pairwise_ne.1 k7)) (by
        intro v hv
        rw [List.mem_map] at hv
        obtain ⟨i, hi, rfl⟩ := hv
        have := (k8 i hi).1
        simp only [Int.ofNat_eq_natCast]; omega)
      simpa using this
    have e50 := ok50 N arcs f t rest r1 w1 hV hf hft hF hv hP
    refine call_isN [2] [.agg [.i N, .ro 4 (arcs.map Arc.enc)], .i f, .i t, .sl 0 0 rest.length] (.sl 2 0 w1.length) (.sl 8 0 w1.length) _ _ [.var [.i N, .ro 4 (arcs.map Arc.enc)], .var [.nil, .nil, .i 0], .arr 1 (r1.map encI), .dead, .var [.sl 5 0 ws.length, .sl 6 0 ns.length, .i 0], .arr 1 (wrows ws), .arr 1 (ns.map encI), .dead, .arr 1 (rows w1)] e50 (by simp [cx0]) rfl (by simp [lendsOk, lendOk, lends, lend, wkL, wk, wkB, wkR, pos]) (by simp) rfl rfl trivial ?_
    have hw0 : ((w1.length : Int) == 0) = false := by
      have := List.length_pos_iff.2 k5
      simp; omega
    have htw : List.take w1.length (rows w1) = rows w1 := rows_take (Nat.le_refl _)
    have htws : List.take ws.length (wrows ws) = wrows ws := List.take_of_length_le (by rw [wrows_len]; exact Nat.le_refl _)
    have hwp : w1.length ≤ (rows w1).length := by rw [rows_len]; exact Nat.le_refl _
    simp -implicitDefEqProofs only [qa, qc, qw, rdK, qx, qz, qA, qC, qE, qF, qI, qJ, qN, qO, qP, qR, qV, qW, qX, qZ, zb, zr, zD, zJ, zK, zL, zM, zP, ofConst, cells?, List.length_nil, List.length_cons, List.set_cons_zero, splice, zQ, List.getD_eq_getElem?_getD, List.getElem?_cons_zero, ↓reduceIte, Nat.reduceEqDiff, Option.getD_some, zR, zT, ↓zV, List.nil_append, List.cons_append, List.append_nil, Nat.zero_add, Nat.reduceAdd, Nat.add_zero, reduceCtorEq, freshP, litsP, killE, killB, kill, kills, St.kill, List.map_cons, List.map_nil, List.drop_zero, List.take_zero, List.take_nil, List.drop_nil, List.all_cons, List.all_nil, isD, isC, Bool.and_true, Bool.and_self, true_and, and_true, and_self, List.mem_cons, List.not_mem_nil, or_false, false_or, not_false_eq_true, Nat.reduceLT, Nat.reduceLeDiff, Nat.le_refl, lg0, ka, kc, ke, kf, lg1, kg, kh, ki, kj, lg2, kk, kn, ko, lg3, kq, lg4, ky, lg5, kC, lg6, kG, lg7, kK, lg8, kO, jo, ↓jp, ↓jr, ↓ju, ↓jy, ↓jz, ↓jA, ↓jB, ↓jE, ↓jL, ↓jW, ↓jX, ↓qan, ↓qao, ↓qaP, cx0_bn, cx0_fx, hw0, ↓op_litsf, ↓frzP_n, ↓frzP_c, ↓frzQ_s, ↓frz1_a, frzE, frzV, frzL, frzB, rows_len]
    intro _
    rw [htw, htws, ← wrows_snoc]
    refine ⟨⟨by rw [wrows_len]; omega, by omega⟩, ?_⟩
    have e51 := ok51 r1 w1 k2.rng k5 k7 (fun j hj => by rw [k2.len]; exact (k8 j hj).1) (by have := k2.len; omega) (by omega)
    rw [hlr] at e51
    refine call_isN [2] [.sl 0 0 rest.length, .bro 1 (rows w1)] (.i (tkN r1 w1)) (.i (tkN r1 w1)) _ _ [.var [.i N, .ro 4 (arcs.map Arc.enc)], .var [.nil, .nil, .i 0], .arr 1 ((tkR r1 w1).map encI), .dead, .var [.sl 5 0 (ws.length + 1), .sl 6 0 ns.length, .i 0], .arr 1 (wrows (ws ++ [w1])), .arr 1 (ns.map encI), .dead, .dead, .arr 1 [[.ro 1 (rows w1)]], .dead, .dead, .dead] e51 (by simp [cx0]) rfl (by simp [lendsOk, lendOk, lends, lend, wkL, wk, wkB, pos]) (by simp [takeH]) rfl rfl trivial ?_
    have e0 : List.take ns.length (ns.map encI) ++ [[V.v (.int .i64 (tkN r1 w1))]] = (ns ++ [tkN r1 w1]).map encI := by
      rw [List.take_of_length_le (by simp), List.map_append]; rfl
    simp -implicitDefEqProofs only [qc, qy, qz, qA, qC, qW, qX, zp, zr, zJ, zK, zL, zP, cells?, List.length_nil, List.length_cons, List.set_cons_zero, splice, zQ, List.getD_eq_getElem?_getD, List.getElem?_cons_zero, ↓reduceIte, Nat.reduceEqDiff, Option.getD_some, List.nil_append, List.cons_append, Nat.zero_add, Nat.reduceAdd, Nat.add_zero, reduceCtorEq, freshP, litsP, zZ, leE, leH, leB, leV, leVs, keepP, liveP, wfE, wfB, wfV, wfL, killE, killB, kill, kills, St.kill, List.map_cons, List.map_nil, List.drop_zero, List.take_zero, List.take_nil, List.all_cons, List.all_nil, isD, isC, Bool.and_true, Bool.and_self, true_and, and_true, and_self, List.mem_cons, List.not_mem_nil, or_false, false_or, List.length_map, not_false_eq_true, Bool.false_eq_true, Nat.reduceLT, Nat.reduceLeDiff, Nat.le_refl, lg0, ka, kc, ke, kf, lg1, kg, kh, lg2, kk, lg3, kq, lg4, ky, lg5, kC, lg6, kG, lg7, kK, lg8, kO, lg9, kS, kW, kX, jo, ↓jp, ↓jA, ↓jB, ↓jE, ↓jW, ↓jX, ↓qan, ↓qao, List.length_map, cx0_fx, e0]
    refine ⟨by omega, (tkR r1 w1, ws ++ [w1], ns ++ [tkN r1 w1]), ⟨⟨hFv, ⟨ws2, ns2, hR2, by rw [hws]; simp, by rw [hns]; simp⟩, ?_⟩, ?_⟩, ?_⟩
    · have := hto.2.2.2.1
      show (ws ++ [w1]).length + cnt (tkR r1 w1) arcs.length ≤ arcs.length ∧ (ns ++ [tkN r1 w1]).length = (ws ++ [w1]).length
      simp; omega
    · have := hto.2.2.2.1
      show cnt (tkR r1 w1) arcs.length < cnt rest arcs.length
      omega
    · simp [tkR_len, hlr]
  · have hvf : decide (0 < valTo arcs f rest arcs.length) = false := decide_eq_false hv
    simp -implicitDefEqProofs only [qE, qF, qI, qJ, qK, qM, qO, qP, qR, qV, qZ, zD, zJ, zL, zM, zP, ofConst, List.length_nil, List.length_cons, zQ, List.getD_eq_getElem?_getD, List.getElem?_cons_zero, ↓reduceIte, Nat.reduceEqDiff, Option.getD_some, zR, zT, ↓zV, List.append_nil, Nat.zero_add, Nat.reduceAdd, List.map_cons, List.map_nil, List.drop_zero, List.take_nil, true_and, Nat.le_refl, ke, ki, jo, ↓jr, ↓ju, ↓jz, ↓qaT, hvf]
    cases hR with
    | step h _ _ => exact absurd h hv
    | stop h =>
      rw [List.append_nil] at hws hns
      subst hws hns
      exact hX rest 7 _ _ _ _ _
theorem ok23 (N : Nat) (arcs : List Arc) (f t : Int) (flow : List Int) (wsT : List (List Nat)) (nsT : List Int) (hV : Val N arcs) (hc : checkI N arcs f t flow = 0) (hR : PR N arcs f t flow wsT nsT) : Ok 23 [.agg [.i N, .ro 4 (arcs.map Arc.enc)], .i f, .i t, li flow] (Is (pathsG wsT nsT 0)) := by
  have hN := hV.hn
  have hL := hV.hl
  obtain ⟨he, hfl, hfp⟩ := check0 hc
  have hE : (0 ≤ f ∧ f < N) ∧ (0 ≤ t ∧ t < N) ∧ f ≠ t := by simpa [endsB] using he
  have hF := flow_Fv hV hc
  have h00 : ((0 : Int) != 0) = false := rfl
  refine ⟨rlF_callable lw23, Fn_give (R := fun q hs => wk (pathsG wsT nsT 0) (gvV (fun _ => true) hs q)) ?_ fun _ _ h => h⟩
  refine (ok_of lw23 (by simp) ?_).2
  unfold c23
  simp -implicitDefEqProofs only [qF, qI, qO, qP, qR, qT, qU, qV, zD, zJ, zL, zP, ofConst, cells?, List.length_nil, List.length_cons, List.set_cons_zero, zQ, List.getD_eq_getElem?_getD, List.getElem?_cons_zero, ↓reduceIte, Nat.reduceEqDiff, Option.getD_some, List.nil_append, List.append_nil, Nat.zero_add, Nat.reduceAdd, Nat.add_zero, reduceCtorEq, freshP, List.map_cons, List.map_nil, List.drop_zero, List.take_nil, true_and, Nat.le_refl, lg0, ka, ke, kf, ki, kj, jo, ↓jp, ↓jr, ↓ju, ↓jz, args0, li]
  refine call_is (ok27 N arcs f t flow hV) ?_ rfl ?_
  · simp [net, li, lendsOk, lendOk, lends, lend, wkL, wk, wkB, pos]
  rw [hc]
  simp -implicitDefEqProofs only [qE, qF, qI, qJ, qK, qL, qN, qO, qP, qR, qU, qW, qZ, zk, zp, zr, zJ, zK, zL, zM, zP, ofConst, cells?, List.length_nil, List.length_cons, List.set_cons_zero, splice, zQ, List.getD_eq_getElem?_getD, List.getElem?_cons_zero, ↓reduceIte, Nat.reduceEqDiff, Option.getD_some, zR, zT, ↓zV, List.nil_append, List.cons_append, List.append_nil, Nat.zero_add, Nat.reduceAdd, Nat.add_zero, reduceCtorEq, freshP, buildP, litsP, killE, killB, kill, kills, St.kill, List.map_cons, List.map_nil, List.take_zero, List.take_nil, List.drop_nil, List.all_cons, List.all_nil, isC, Bool.and_true, Bool.and_self, true_and, and_true, and_self, List.mem_cons, List.not_mem_nil, or_false, List.length_append, List.length_map, not_false_eq_true, Nat.le_refl, lg0, ka, kc, ke, kf, lg1, kg, kh, ki, kj, lg2, kk, kn, lg3, kq, jo, ↓jp, ↓jA, ↓jB, ↓jZ, ↓qan, ↓qao, ↓qaQ, List.length_map, cx0_bn, cx0_fx, h00]
  refine ⟨.inr trivial, by omega, ?_⟩
  refine loopP_ghost (.virt 2 1 (by decide) (.nilB 4 [.nil, .nil, .i 0] [.sl 5 0 0, .sl 6 0 0, .i 0] rfl ?_ (.refl _)))
    (fun g : List Int × List (List Nat) × List Int => pat23 N arcs f t g.1 g.2.1 g.2.2) (fun g => InP N arcs f t wsT nsT g.1 g.2.1 g.2.2) (fun g => cnt g.1 arcs.length) (flow, [], []) ⟨hF, ⟨wsT, nsT, hR, rfl, rfl⟩, by have := cnt_all flow arcs.length; simpa using this⟩ ?_ (body23 N arcs f t wsT nsT hV hE.1 hE.2.2 ?_)
  · refine ⟨rfl, fun i x y hx hy => ?_⟩
    match i, hx, hy with
    | 0, hx, hy => simp at hx hy; subst hx hy; exact .inr ⟨rfl, 5, rfl⟩
    | 1, hx, hy => simp at hx hy; subst hx hy; exact .inr ⟨rfl, 6, rfl⟩
    | 2, hx, hy => simp at hx hy; subst hx hy; exact .inl rfl
  · unfold pat23
    simp -implicitDefEqProofs only [zP, List.length_nil, List.set_cons_zero, List.getElem?_cons_zero, ↓reduceIte, Nat.reduceEqDiff, List.nil_append, List.cons_append, reduceCtorEq, zZ, leE, leH, leB, leV, leVs, keepP, liveP, wfE, wfB, wfV, wfL, List.map_nil, Bool.and_self, and_self, lg0, ka, kf, lg1, kg, kj, lg2, kk, lg3, kq, lg4, lg5, jo, leVs, leV, wrows, List.map_nil]
  intro rest b x1 x2 x3 x4 x5
  unfold pat23
  simp only [↓reduceIte]
  simp -implicitDefEqProofs only [qF, qI, qN, qO, qP, qV, qW, zJ, zK, zL, zP, cells?, List.length_nil, List.length_cons, List.set_cons_zero, splice, zQ, List.getD_eq_getElem?_getD, List.getElem?_cons_zero, ↓reduceIte, Nat.reduceEqDiff, Option.getD_some, List.nil_append, List.append_nil, Nat.zero_add, Nat.reduceAdd, Nat.add_zero, resP, tupV, List.reverse_cons, List.reverse_nil, keepP, liveP, wfV, wfL, List.drop_zero, List.take_zero, List.take_nil, List.drop_nil, List.all_cons, List.all_nil, isC, Bool.and_true, Bool.and_self, true_and, and_true, and_self, List.not_mem_nil, List.length_append, not_false_eq_true, Nat.le_refl, lg0, ka, kc, ke, lg1, kh, ki, lg2, kn, ko, lg3, jo, ↓jp, ↓jr, ↓ju, ↓jz, ↓jA, ↓jB, cx0_bn, retP_eq]
  refine ⟨[.dead, .dead, .dead, .dead, .dead, .arr 1 (wrows wsT), .arr 1 (nsT.map encI)], ⟨by simp [leH, leB], by simp, by simp [wfV, wfL, liveP], by simp [wfB]⟩, ?_⟩
  have e1 : List.take wsT.length (wrows wsT) = wrows wsT := List.take_of_length_le (by rw [wrows_len]; exact Nat.le_refl _)
  have e2 : List.take nsT.length (nsT.map encI) = nsT.map encI := take_enc rfl
  simp [pathsG, gvV, gvL, wk, wkL, wkR, blk, e1, e2, wrows_len]
theorem ok23e (N : Nat) (arcs : List Arc) (f t : Int) (flow : List Int) (hV : Val N arcs) (hc : checkI N arcs f t flow ≠ 0) : Ok 23 [.agg [.i N, .ro 4 (arcs.map Arc.enc)], .i f, .i t, li flow] (Is (pathsG [] [] (checkI N arcs f t flow))) := by
  have h00 : (checkI N arcs f t flow != 0) = true := by simpa using hc
  refine ⟨rlF_callable lw23, Fn_give (R := fun q hs => wk (pathsG [] [] (checkI N arcs f t flow)) (gvV (fun _ => true) hs q)) ?_ fun _ _ h => h⟩
  refine (ok_of lw23 (by simp) ?_).2
  unfold c23
  simp -implicitDefEqProofs only [qF, qI, qO, qP, qR, qT, qU, qV, zD, zJ, zL, zP, ofConst, cells?, List.length_nil, List.length_cons, List.set_cons_zero, zQ, List.getD_eq_getElem?_getD, List.getElem?_cons_zero, ↓reduceIte, Nat.reduceEqDiff, Option.getD_some, List.nil_append, List.append_nil, Nat.zero_add, Nat.reduceAdd, Nat.add_zero, reduceCtorEq, freshP, List.map_cons, List.map_nil, List.drop_zero, List.take_nil, true_and, Nat.le_refl, lg0, ka, ke, kf, ki, kj, jo, ↓jp, ↓jr, ↓ju, ↓jz, args0, li]
  refine call_is (ok27 N arcs f t flow hV) ?_ rfl ?_
  · simp [net, li, lendsOk, lendOk, lends, lend, wkL, wk, wkB, pos]
  simp -implicitDefEqProofs only [qE, qF, qI, qJ, qK, qL, qN, qO, qP, qR, qU, qW, qZ, zk, zp, zr, zJ, zK, zL, zM, zP, ofConst, cells?, List.length_nil, List.length_cons, List.set_cons_zero, splice, zQ, List.getD_eq_getElem?_getD, List.getElem?_cons_zero, ↓reduceIte, Nat.reduceEqDiff, Option.getD_some, zR, zT, ↓zU, List.nil_append, List.cons_append, List.append_nil, Nat.zero_add, Nat.reduceAdd, Nat.add_zero, reduceCtorEq, freshP, buildP, litsP, resP, tupV, List.reverse_cons, List.reverse_nil, keepP, wfV, wfL, killE, killB, kill, kills, St.kill, List.map_cons, List.map_nil, List.drop_zero, List.take_zero, List.take_nil, List.drop_nil, List.all_cons, List.all_nil, isC, Bool.and_true, Bool.and_self, true_and, and_true, and_self, List.mem_cons, List.not_mem_nil, or_false, List.length_append, List.length_map, not_false_eq_true, Nat.le_refl, lg0, ka, kc, ke, kf, lg1, kg, kh, ki, kj, lg2, kk, kn, ko, lg3, kq, jo, ↓jp, ↓jr, ↓ju, ↓jz, ↓jA, ↓jB, ↓jZ, ↓qan, ↓qao, ↓qaQ, List.length_map, cx0_bn, cx0_fx, h00, retP_eq]
  refine ⟨[], ⟨trivial, by simp, trivial⟩, ?_⟩
  simp [pathsG, gvV, gvL, wk, wkL, wkR, wrows]
theorem ok24 (ws : List (List Nat)) : Ok 24 [.ro 1 (wrows ws), .ro 1 (wrows ws)] (Is (.b true)) := by
  refine ok_of lw24 (by simp) ?_
  unfold c24
  simp -implicitDefEqProofs only [qE, qF, qI, qJ, qK, qL, qN, qO, qP, qR, qZ, zb, zJ, zL, zM, zP, ofConst, List.length_nil, ↓reduceIte, Nat.reduceEqDiff, zR, zT, List.nil_append, List.append_nil, Nat.zero_add, reduceCtorEq, zY, resP, tupV, List.reverse_cons, List.reverse_nil, wfV, true_and, V.v.injEq, Value.int.injEq, Value.bool.injEq, Bool.false_eq_true, jo, ↓jM, ↓qaQ, cx0_fx, args0]
  simp only [br, bne_iff_ne, bne_eq_false_iff_eq]
  refine fun _ _ => ⟨fun h => absurd rfl h, fun _ => ?_⟩
  refine loopP_intro (fun k : Nat => ⟨[(5, .i k), (0, .ro 1 (wrows ws)), (1, .ro 1 (wrows ws))], [], 0⟩) (fun k => k ≤ ws.length) (fun k => ws.length - k) 0 (Nat.zero_le _) ?_ ?_
  · simp -implicitDefEqProofs only [zP, ↓reduceIte, Nat.reduceEqDiff, reduceCtorEq, zZ, leE, leH, keepP, wfE, wfB, wfV, Bool.and_self, and_self, Int.natCast_zero]
  intro k hk
  have hg : ∀ h : k < (wrows ws).length, (wrows ws)[k] = [.ro 1 (rows (ws[k]'(by simpa [wrows] using h)))] := by intro h; simp [wrows]
  simp -implicitDefEqProofs only [qE, qF, qG, qI, qJ, qK, qM, qN, qO, qP, qR, qV, qY, qZ, zb, zD, zJ, zL, zM, zP, ofConst, List.length_nil, List.getElem?_cons_zero, ↓reduceIte, Nat.reduceEqDiff, zR, zT, List.nil_append, List.append_nil, reduceCtorEq, zY, resP, tupV, List.reverse_cons, List.reverse_nil, wfV, List.map_cons, List.map_nil, Bool.and_self, true_and, and_self, jo, ↓jp, ↓jt, ↓jy, ↓jH, ↓jM, ↓qaR, Int.toNat_natCast, wrows_len, hg]
  simp only [br, decide_eq_true_eq, decide_eq_false_iff_not]
  refine fun hm => ⟨fun h => ⟨⟨by omega, h⟩, by omega, ⟨by omega, h⟩, by omega, ?_⟩, fun h => ?_⟩
  · have hk1 : k < ws.length := by omega
    have er : rows ws[k] = (ws[k].map Int.ofNat).map encI := by simp [rows, encN, encI]
    refine call_is (ok13 (ws[k].map Int.ofNat) (ws[k].map Int.ofNat)) ?_ rfl ?_
    · rw [er]; simp [li, lendsOk, lendOk, lends, lend, wkL, wk, wkB, pos]
    simp -implicitDefEqProofs only [qE, qF, qI, qJ, qO, qP, qR, qZ, zd, zJ, zL, zM, zP, ofConst, List.length_nil, ↓reduceIte, Nat.reduceEqDiff, zR, zS, zT, Bool.not_true, ↓zV, List.append_nil, reduceCtorEq, zZ, leE, leH, keepP, wfE, wfB, wfV, Bool.and_true, Bool.and_self, true_and, and_true, and_self, V.v.injEq, Value.int.injEq, Value.bool.injEq, jo, ↓qaJ, decide_true]
    exact ⟨by simp only [lo, hi, maxLen] at *; omega, k + 1, ⟨by omega, by omega⟩, by simp⟩
  · trivial
theorem ok7 (n : Int) (arcs : List Arc) (f t : Int) (flow : List Int) : Ok 7 [rnet n arcs, .i f, .i t, rli flow] (Is (.b true)) := by
  refine ok_of lw7 (by simp) ?_
  unfold c7
  simp -implicitDefEqProofs only [qF, qI, qO, qP, qR, qT, qV, zD, zJ, zL, zM, zP, ofConst, cells?, List.length_nil, List.length_cons, List.set_cons_zero, zQ, List.getD_eq_getElem?_getD, List.getElem?_cons_zero, ↓reduceIte, Nat.reduceEqDiff, Option.getD_some, List.nil_append, List.append_nil, Nat.zero_add, Nat.reduceAdd, Nat.add_zero, freshP, List.map_cons, List.map_nil, List.drop_zero, List.take_nil, true_and, Nat.le_refl, ke, kf, ki, jo, ↓jp, ↓jr, ↓ju, ↓jz, args0, rnet, rli]
  refine call_is (ok9 n arcs 12 40) ?_ rfl ?_
  · simp [net, lendsOk, lendOk, lends, lend, wkL, wk, wkB, pos]
  cases hF : (decide (n ≤ 12 ∧ (arcs.length : Int) ≤ 40) && validB n arcs) with
  | false =>
    simp -implicitDefEqProofs only [qF, qI, qJ, qO, qP, zd, zD, zJ, zL, zP, List.length_nil, List.length_cons, ↓reduceIte, zS, zT, Bool.not_false, ↓zU, List.append_nil, Nat.zero_add, List.map_nil, jo]
    refine call_is sanOk ?_ rfl ?_
    · simp [lendsOk, lendOk, lends, lend, wkL, wk, wkB, pos]
    simp -implicitDefEqProofs only [qN, qO, qP, qR, zJ, zL, zP, ↓reduceIte, List.nil_append, zY, resP, tupV, List.reverse_cons, List.reverse_nil, wfV, Bool.and_self, and_self]
  | true =>
    simp only [Bool.and_eq_true, decide_eq_true_eq] at hF
    obtain ⟨N, rfl, hV⟩ := valOf hF.2
    simp -implicitDefEqProofs only [qE, qF, qI, qJ, qO, qP, qR, qV, zd, zD, zJ, zL, zP, List.length_nil, List.length_cons, zQ, List.getD_eq_getElem?_getD, List.getElem?_cons_zero, ↓reduceIte, Nat.reduceEqDiff, Option.getD_some, zS, zT, Bool.not_true, ↓zV, List.append_nil, Nat.zero_add, Nat.reduceAdd, reduceCtorEq, List.map_cons, List.map_nil, List.drop_zero, List.take_nil, true_and, Nat.le_refl, ke, ki, jo, ↓jr, ↓ju, ↓jz]
    have key : ∃ ws ns, ∃ e, Ok 22 [.agg [.i N, .ro 4 (arcs.map Arc.enc)], .i f, .i t, li flow] (Is (pathsV ws ns e)) ∧ Ok 23 [.agg [.i N, .ro 4 (arcs.map Arc.enc)], .i f, .i t, li flow] (Is (pathsG ws ns e)) := by
      by_cases hc : checkI N arcs f t flow = 0
      · obtain ⟨he, hfl, hfp⟩ := check0 hc
        have hE : (0 ≤ f ∧ f < N) ∧ (0 ≤ t ∧ t < N) ∧ f ≠ t := by simpa [endsB] using he
        obtain ⟨ws, ns, hR⟩ := PR.ex hV hE.1 hE.2.2 _ flow (Nat.le_refl _) (flow_Fv hV hc)
        exact ⟨ws, ns, 0, ok22 N arcs f t flow ws ns hV hc hR, ok23 N arcs f t flow ws ns hV hc hR⟩
      · exact ⟨[], [], _, ok22e N arcs f t flow hV hc, ok23e N arcs f t flow hV hc⟩
    obtain ⟨ws, ns, e, q1, q2⟩ := key
    refine call_is q1 ?_ rfl ?_
    · simp [li, lendsOk, lendOk, lends, lend, wkL, wk, wkB, wkR, pos]
    simp -implicitDefEqProofs only [qF, qI, qO, qP, qR, qV, zD, zE, zJ, zL, zP, List.length_nil, List.length_cons, zQ, List.getD_eq_getElem?_getD, List.getElem?_cons_zero, ↓reduceIte, Nat.reduceEqDiff, Option.getD_some, List.nil_append, List.cons_append, Nat.zero_add, Nat.reduceAdd, reduceCtorEq, List.map_cons, List.map_nil, List.drop_zero, List.take_nil, true_and, Nat.le_refl, lg0, ke, kf, lg1, ki, jo, ↓jp, ↓jr, ↓ju, ↓jz, ↓jR, pathsV]
    refine call_is q2 ?_ rfl ?_
    · simp [li, lendsOk, lendOk, lends, lend, wkL, wk, wkB, wkR, pos]
    simp -implicitDefEqProofs only [qF, qI, qO, qP, qU, qW, zD, zJ, zK, zL, zP, ofConst, cells?, List.length_nil, List.length_cons, List.set_cons_zero, splice, zQ, List.getD_eq_getElem?_getD, List.getElem?_cons_zero, ↓reduceIte, Nat.reduceEqDiff, Option.getD_some, List.nil_append, List.cons_append, List.append_nil, Nat.zero_add, Nat.reduceAdd, Nat.add_zero, freshP, List.map_cons, List.map_nil, List.take_zero, List.drop_nil, List.all_cons, List.all_nil, isC, Bool.and_true, Bool.and_self, true_and, and_true, and_self, List.not_mem_nil, not_false_eq_true, Nat.le_refl, lg0, ka, kc, kh, kn, jo, ↓jp, ↓jA, ↓jB, cx0_bn, pathsG]
    refine call_is sanOk ?_ rfl ?_
    · simp [lendsOk, lendOk, lends, lend, wkL, wk, wkB, pos]
    simp -implicitDefEqProofs only [qP, qQ, qR, qS, qV, qX, qZ, zD, zJ, zL, zP, zQ, List.getD_eq_getElem?_getD, List.getElem?_cons_zero, ↓reduceIte, Nat.reduceEqDiff, Option.getD_some, zR, zT, ↓zU, zW, Nat.zero_add, Nat.add_zero, List.map_cons, List.map_nil, true_and, lg0, lg1, ↓jp, ↓jr, ↓ju, ↓jy, ↓jE, ↓qaP, beq_self_eq_true]
    refine call_is (ok24 ws) ?_ rfl ?_
    · simp [lendsOk, lendOk, lends, lend, wkL, wk, wkB, wkR, pos]
    simp -implicitDefEqProofs only [qP, qQ, qR, qS, qV, qX, zD, zJ, zL, zP, zQ, List.getD_eq_getElem?_getD, List.getElem?_cons_zero, ↓reduceIte, Nat.reduceEqDiff, Option.getD_some, zT, ↓zU, zW, Nat.zero_add, List.map_cons, List.map_nil, lg0, ↓jp, ↓jr, ↓ju, ↓jy, ↓jE]
    refine call_is (ok13 ns ns) ?_ rfl ?_
    · simp [li, lendsOk, lendOk, lends, lend, wkL, wk, wkB, pos]
    simp -implicitDefEqProofs only [qN, qO, qP, qR, qS, zJ, zL, zP, ↓reduceIte, Nat.reduceEqDiff, zT, ↓zU, List.nil_append, zY, resP, tupV, List.reverse_cons, List.reverse_nil, wfV, Bool.and_self, and_self, decide_true]
theorem fn7 : ∀ xs, WfA [.st [.int .i64, .sl 4 (.st [.int .i64, .int .i64, .int .i64, .int .i64])], .int .i64, .int .i64, .sl 1 (.int .i64)] xs → Fn Try.prog 7 xs [] [] (fun r _ => r = .b true) := by
  intro xs h
  obtain ⟨x1, _, rfl, h1, h⟩ := h
  obtain ⟨x2, _, rfl, h2, h⟩ := h
  obtain ⟨x3, _, rfl, h3, h⟩ := h
  obtain ⟨x4, _, rfl, h4, h⟩ := h
  obtain rfl : _ = [] := h
  obtain ⟨n, arcs, rfl⟩ := wf_net h1
  obtain ⟨f, rfl⟩ := wf_int h2
  obtain ⟨t, rfl⟩ := wf_int h3
  obtain ⟨flow, rfl⟩ := wf_li h4
  exact Fn_post (ok7 n arcs f t flow).2 fun r h' h => h.1
end Go.Fx.F
