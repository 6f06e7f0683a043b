import Derived.Test.YtmddpcjkpbjkeaaT18
import Derived.Test.YtmddpcjkpbjkeaaFSan
import Derived.Test.YtmddpcjkpbjkeaaFxRunDefs
import Derived.Test.YtmddpcjkpbjkeaaFxRunSound
set_option linter.unusedVariables false
set_option linter.unusedSimpArgs false
set_option linter.unusedSectionVars false
namespace Go.Fx.F
open Go Go.Fx Go.Proofs
set_option maxRecDepth 20000
def rnet (n : Int) (arcs : List Arc) : V := .agg [.i n, .ro 4 (arcs.map Arc.enc)]
def rli (l : List Int) : V := .ro 1 (l.map encI)
def rlb (l : List Bool) : V := .ro 1 (l.map encB)
theorem valOf {n : Int} {arcs : List Arc} (h : validB n arcs = true) : ∃ N : Nat, n = N ∧ Val N arcs := by
  simp only [validB, Bool.and_eq_true, decide_eq_true_eq, List.all_eq_true, validA] at h
  refine ⟨n.toNat, by omega, ⟨by omega, by omega, fun a ha => ?_⟩⟩
  have := h.2 a ha
  omega
theorem possOf {arcs : List Arc} {flow : List Int} (h : possB arcs flow = true) : flow.length = arcs.length ∧ possP arcs flow := by
  simpa [possB] using h
theorem sanOk : Ok 10 [] (Is (.b true)) := san
theorem ok8 (n : Int) (arcs : List Arc) (f t : Int) (flow : List Int) (cut : List Bool) : Ok 8 [rnet n arcs, .i f, .i t, rli flow, rlb cut] (Is (.b true)) := by
  refine ok_of lw8 (by simp) ?_
  unfold c8
  by_cases q1 : 30 < n
  · by_cases q2 : n ≤ 256
    · simp -implicitDefEqProofs only [qw, rdK, qx, qz, qA, qC, qE, qF, qI, qJ, qO, qP, qQ, qR, qS, qT, qV, qX, qZ, za, zB, zF, zI, zJ, zM, ofConst, cells?, List.length_nil, List.length_cons, List.set_cons_zero, zN, List.getD_eq_getElem?_getD, List.getElem?_cons_zero, ↓reduceIte, Nat.reduceEqDiff, Option.getD_some, zO, zQ, Bool.not_true, Bool.not_false, ↓zR, ↓zS, zT, List.nil_append, List.append_nil, Nat.zero_add, Nat.reduceAdd, Nat.add_zero, freshP, List.map_cons, List.map_nil, List.drop_zero, List.take_nil, Bool.and_true, true_and, and_true, List.length_map, Bool.false_eq_true, Nat.le_refl, lg0, zZ, ka, kf, jg, ↓jh, ↓jj, ↓jl, ↓jo, ↓jp, ↓jv, ↓jE, ↓qaK, ↓qaL, List.length_map, cx0_fx, args0, rnet, rli, rlb, q1, q2, decide_true]
      refine call_is sanOk ?_ rfl ?_
      · simp [net, li, lb, lendsOk, lendOk, lends, lend, wkL, wk, wkB, pos]
      simp -implicitDefEqProofs only [qN, qO, qP, qR, zF, zI, zM, ↓reduceIte, List.nil_append, zV, resP, tupV, List.reverse_cons, List.reverse_nil, wfV, Bool.and_self, and_self]
    · simp -implicitDefEqProofs only [qw, rdK, qx, qz, qA, qC, qE, qF, qI, qJ, qO, qP, qQ, qR, qS, qT, qV, qX, qZ, za, zB, zF, zI, zJ, zM, ofConst, cells?, List.length_nil, List.length_cons, List.set_cons_zero, zN, List.getD_eq_getElem?_getD, List.getElem?_cons_zero, ↓reduceIte, Nat.reduceEqDiff, Option.getD_some, zO, zQ, Bool.not_true, Bool.not_false, ↓zR, ↓zS, zT, List.nil_append, List.append_nil, Nat.zero_add, Nat.reduceAdd, Nat.add_zero, freshP, List.map_cons, List.map_nil, List.drop_zero, List.take_nil, Bool.and_true, true_and, and_true, List.length_map, Bool.false_eq_true, Nat.le_refl, lg0, zZ, ka, kf, jg, ↓jh, ↓jj, ↓jl, ↓jo, ↓jp, ↓jv, ↓jE, ↓qaK, ↓qaL, List.length_map, cx0_fx, args0, rnet, rli, rlb, q1, q2, decide_true, decide_false]
      simp only [br, decide_eq_true_eq, decide_eq_false_iff_not]
      have hv : validB n arcs = false := by
        simp [validB]; omega
      refine fun hm => ⟨fun h => ?_, fun h => ?_⟩
      · refine call_is sanOk ?_ rfl ?_
        · simp [net, li, lb, lendsOk, lendOk, lends, lend, wkL, wk, wkB, pos]
        simp -implicitDefEqProofs only [qN, qO, qP, qR, zF, zI, zM, ↓reduceIte, List.nil_append, zV, resP, tupV, List.reverse_cons, List.reverse_nil, wfV, Bool.and_self, and_self]
      · refine call_is (ok25 n arcs) ?_ rfl ?_
        · simp [net, li, lb, lendsOk, lendOk, lends, lend, wkL, wk, wkB, pos]
        simp -implicitDefEqProofs only [qz, qC, zB, zF, zI, zM, ↓reduceIte, Nat.reduceEqDiff, List.map_cons, List.map_nil, Bool.and_true, and_true, Bool.false_eq_true, cx0_fx]
        refine call_is (ok26 n arcs) ?_ rfl ?_
        · simp [net, li, lb, lendsOk, lendOk, lends, lend, wkL, wk, wkB, pos]
        simp -implicitDefEqProofs only [qq, qy, qA, qE, qF, qI, qJ, qP, qV, zk, zB, zF, zI, zM, List.length_nil, List.length_cons, zN, List.getD_eq_getElem?_getD, List.getElem?_cons_zero, ↓reduceIte, Nat.reduceEqDiff, Option.getD_some, zP, zQ, ↓zS, List.append_nil, Nat.zero_add, Nat.reduceAdd, List.map_cons, List.map_nil, List.drop_zero, List.take_nil, true_and, Nat.le_refl, zZ, kf, jg, ↓jj, ↓jl, ↓jp, bne_self_eq_false]
        refine call_is (ok26 n arcs) ?_ rfl ?_
        · simp [net, li, lb, lendsOk, lendOk, lends, lend, wkL, wk, wkB, pos]
        simp -implicitDefEqProofs only [qa, qw, rdK, qx, qz, qA, qC, qE, qF, qI, qJ, qO, qP, qR, qV, zc, zB, zF, zI, zM, List.length_nil, List.length_cons, zN, List.getD_eq_getElem?_getD, List.getElem?_cons_zero, ↓reduceIte, Nat.reduceEqDiff, Option.getD_some, zP, zQ, List.append_nil, Nat.zero_add, Nat.reduceAdd, reduceCtorEq, List.map_cons, List.map_nil, List.drop_zero, List.take_nil, Bool.and_true, true_and, and_true, Nat.le_refl, zZ, kf, jg, ↓jj, ↓jl, ↓jp, cx0_fx]
        simp -implicitDefEqProofs only [hv, Bool.not_false, ↓zR]
        refine call_is sanOk ?_ rfl ?_
        · simp [net, li, lb, lendsOk, lendOk, lends, lend, wkL, wk, wkB, pos]
        simp -implicitDefEqProofs only [qN, qO, qP, qR, zF, zI, zM, ↓reduceIte, List.nil_append, zV, resP, tupV, List.reverse_cons, List.reverse_nil, wfV, Bool.and_self, and_self]
  simp -implicitDefEqProofs only [qw, rdK, qx, qz, qA, qC, qE, qF, qI, qJ, qO, qP, qQ, qR, qS, qT, qV, qX, qZ, za, zB, zF, zI, zJ, zM, ofConst, cells?, List.length_nil, List.length_cons, List.set_cons_zero, zN, List.getD_eq_getElem?_getD, List.getElem?_cons_zero, ↓reduceIte, Nat.reduceEqDiff, Option.getD_some, zO, zQ, Bool.not_true, Bool.not_false, ↓zR, ↓zS, zT, List.nil_append, List.append_nil, Nat.zero_add, Nat.reduceAdd, Nat.add_zero, freshP, List.map_cons, List.map_nil, List.drop_zero, List.take_nil, Bool.and_true, true_and, and_true, List.length_map, Bool.false_eq_true, Nat.le_refl, lg0, zZ, ka, kf, jg, ↓jh, ↓jj, ↓jl, ↓jo, ↓jp, ↓jv, ↓jE, ↓qaK, ↓qaL, List.length_map, cx0_fx, args0, rnet, rli, rlb, q1, decide_false]
  simp only [br, decide_eq_true_eq, decide_eq_false_iff_not]
  refine fun hm => ⟨fun h => ?_, fun h => ?_⟩
  · refine call_is sanOk ?_ rfl ?_
    · simp [net, li, lb, lendsOk, lendOk, lends, lend, wkL, wk, wkB, pos]
    simp -implicitDefEqProofs only [qN, qO, qP, qR, zF, zI, zM, ↓reduceIte, List.nil_append, zV, resP, tupV, List.reverse_cons, List.reverse_nil, wfV, Bool.and_self, and_self]
  refine call_is (ok25 n arcs) ?_ rfl ?_
  · simp [net, li, lb, lendsOk, lendOk, lends, lend, wkL, wk, wkB, pos]
  simp -implicitDefEqProofs only [qz, qC, zB, zF, zI, zM, ↓reduceIte, Nat.reduceEqDiff, List.map_cons, List.map_nil, Bool.and_true, and_true, Bool.false_eq_true, cx0_fx]
  refine call_is (ok26 n arcs) ?_ rfl ?_
  · simp [net, li, lb, lendsOk, lendOk, lends, lend, wkL, wk, wkB, pos]
  simp -implicitDefEqProofs only [qq, qy, qA, qE, qF, qI, qJ, qP, qV, zk, zB, zF, zI, zM, List.length_nil, List.length_cons, zN, List.getD_eq_getElem?_getD, List.getElem?_cons_zero, ↓reduceIte, Nat.reduceEqDiff, Option.getD_some, zP, zQ, ↓zS, List.append_nil, Nat.zero_add, Nat.reduceAdd, List.map_cons, List.map_nil, List.drop_zero, List.take_nil, true_and, Nat.le_refl, zZ, kf, jg, ↓jj, ↓jl, ↓jp, bne_self_eq_false]
  refine call_is (ok26 n arcs) ?_ rfl ?_
  · simp [net, li, lb, lendsOk, lendOk, lends, lend, wkL, wk, wkB, pos]
  simp -implicitDefEqProofs only [qa, qw, rdK, qx, qz, qA, qC, qE, qF, qI, qJ, qO, qP, qR, qV, zc, zB, zF, zI, zM, List.length_nil, List.length_cons, zN, List.getD_eq_getElem?_getD, List.getElem?_cons_zero, ↓reduceIte, Nat.reduceEqDiff, Option.getD_some, zP, zQ, List.append_nil, Nat.zero_add, Nat.reduceAdd, reduceCtorEq, List.map_cons, List.map_nil, List.drop_zero, List.take_nil, Bool.and_true, true_and, and_true, Nat.le_refl, zZ, kf, jg, ↓jj, ↓jl, ↓jp, cx0_fx]
  cases hv : validB n arcs with
  | false =>
    simp -implicitDefEqProofs only [Bool.not_false, ↓zR]
    refine call_is sanOk ?_ rfl ?_
    · simp [net, li, lb, lendsOk, lendOk, lends, lend, wkL, wk, wkB, pos]
    simp -implicitDefEqProofs only [qN, qO, qP, qR, zF, zI, zM, ↓reduceIte, List.nil_append, zV, resP, tupV, List.reverse_cons, List.reverse_nil, wfV, Bool.and_self, and_self]
  | true =>
    simp -implicitDefEqProofs only [Bool.not_true, ↓zS]
    obtain ⟨N, rfl, hV⟩ := valOf hv
    refine call_is (ok17 N arcs f t flow hV) ?_ rfl ?_
    · simp [net, li, lb, lendsOk, lendOk, lends, lend, wkL, wk, wkB, pos]
    simp -implicitDefEqProofs only [qz, qC, zB, zF, zI, zM, ↓reduceIte, Nat.reduceEqDiff, List.map_cons, List.map_nil, Bool.and_true, and_true, Bool.false_eq_true, cx0_fx]
    refine call_is (ok27 N arcs f t flow hV) ?_ rfl ?_
    · simp [net, li, lb, lendsOk, lendOk, lends, lend, wkL, wk, wkB, pos]
    simp -implicitDefEqProofs only [qa, qe, qw, rdK, qz, qA, qB, qD, qR, qV, qZ, zB, zF, zI, zM, List.length_nil, List.length_cons, zN, List.getD_eq_getElem?_getD, List.getElem?_cons_zero, ↓reduceIte, Nat.reduceEqDiff, Option.getD_some, zO, ↓zS, zT, Nat.zero_add, Nat.reduceAdd, reduceCtorEq, List.map_cons, List.map_nil, List.drop_zero, List.take_nil, Bool.and_true, true_and, and_true, Bool.false_eq_true, Nat.le_refl, zZ, kf, ↓jj, ↓jl, ↓jp, ↓qaI, cx0_fx, bne_self_eq_false]
    refine call_is (ok16 N arcs f t flow cut hV) ?_ rfl ?_
    · simp [net, li, lb, lendsOk, lendOk, lends, lend, wkL, wk, wkB, pos]
    simp -implicitDefEqProofs only [qz, qD, zB, zF, zI, zM, ↓reduceIte, Nat.reduceEqDiff, ↓zS, zT, List.map_cons, List.map_nil, Bool.and_true, and_true, Bool.false_eq_true, cx0_fx]
    refine call_is (ok28 N arcs f t flow cut hV) ?_ rfl ?_
    · simp [net, li, lb, lendsOk, lendOk, lends, lend, wkL, wk, wkB, pos]
    simp -implicitDefEqProofs only [qa, qb, qc, qe, qf, qq, qw, rdK, qx, qy, qz, qA, qB, qD, qE, qF, qI, qJ, qP, qR, qS, qV, qX, qZ, za, zk, zB, zF, zI, zJ, zM, ofConst, List.length_nil, List.length_cons, zN, List.getD_eq_getElem?_getD, List.getElem?_cons_zero, ↓reduceIte, Nat.reduceEqDiff, Option.getD_some, zO, zP, zQ, Bool.not_true, ↓zR, ↓zS, zT, List.append_nil, Nat.zero_add, Nat.reduceAdd, Nat.add_zero, reduceCtorEq, List.map_cons, List.map_nil, List.drop_zero, List.take_nil, Bool.and_true, true_and, and_true, List.length_map, Bool.false_eq_true, Nat.le_refl, zZ, kf, jg, ↓jh, ↓jj, ↓jl, ↓jo, ↓jp, ↓jv, ↓jE, ↓qaH, List.length_map, cx0_fx, bne_self_eq_false]
    intro hcm
    have hN := hV.hn
    have hL := hV.hl
    by_cases hc : (cut.length : Int) = N
    · have hc' : cut.length = N := by omega
      have hcb : ((cut.length : Int) == N) = true := by simp [hc]
      simp -implicitDefEqProofs only [↓zR, hcb]
      refine call_is (ok18 N arcs cut hV hc') ?_ rfl ?_
      · simp [net, li, lb, lendsOk, lendOk, lends, lend, wkL, wk, wkB, pos]
      simp -implicitDefEqProofs only [qz, qD, zB, zF, zI, zM, ↓reduceIte, Nat.reduceEqDiff, ↓zR, zT, List.map_cons, List.map_nil, Bool.and_true, and_true, Bool.false_eq_true, cx0_fx]
      refine call_is (ok29 N arcs cut hV hc') ?_ rfl ?_
      · simp [net, li, lb, lendsOk, lendOk, lends, lend, wkL, wk, wkB, pos]
      simp -implicitDefEqProofs only [qb, qe, qy, qA, qB, qE, qF, qI, qJ, qP, qR, qS, qV, qZ, zB, zF, zI, zM, List.length_nil, List.length_cons, zN, List.getD_eq_getElem?_getD, List.getElem?_cons_zero, ↓reduceIte, Nat.reduceEqDiff, Option.getD_some, zO, zQ, ↓zR, ↓zS, zT, List.append_nil, Nat.zero_add, Nat.reduceAdd, reduceCtorEq, List.map_cons, List.map_nil, List.drop_zero, List.take_nil, true_and, Nat.le_refl, zZ, kf, jg, ↓jj, ↓jl, ↓jp, ↓qaI, bne_self_eq_false]
      refine call_is (ok21 N arcs flow) ?_ rfl ?_
      · simp [net, li, lb, lendsOk, lendOk, lends, lend, wkL, wk, wkB, pos]
      simp -implicitDefEqProofs only [qE, qF, qI, qJ, qK, qL, qO, qP, qR, qV, qX, zc, zB, zF, zI, zJ, zM, ofConst, List.length_nil, List.length_cons, zN, List.getD_eq_getElem?_getD, List.getElem?_cons_zero, ↓reduceIte, Nat.reduceEqDiff, Option.getD_some, zP, zQ, List.append_nil, Nat.zero_add, Nat.add_zero, List.map_nil, jg, ↓jh, ↓jj, ↓jl, ↓jo, ↓jv, cx0_fx]
      cases hp : possB arcs flow with
      | false =>
        simp -implicitDefEqProofs only [Bool.not_false, ↓zR]
        refine call_is sanOk ?_ rfl ?_
        · simp [net, li, lb, lendsOk, lendOk, lends, lend, wkL, wk, wkB, pos]
        simp -implicitDefEqProofs only [qN, qO, qP, qR, zF, zI, zM, ↓reduceIte, List.nil_append, zV, resP, tupV, List.reverse_cons, List.reverse_nil, wfV, Bool.and_self, and_self]
      | true =>
        simp -implicitDefEqProofs only [Bool.not_true, ↓zS]
        have hP := possOf hp
        have hf := hV.flow hP.1 hP.2
        refine loopP_intro (fun k : Nat => ⟨[(83, .i k), (82, .i N), (5, .ptr 0 0 0), (3, .ro 1 (flow.map encI))], [.var [.i N, .ro 4 (arcs.map Arc.enc)]], 0⟩) (fun k => k ≤ N) (fun k => N - k) 0 (by simp) ?_ ?_
        · simp -implicitDefEqProofs only [zM, List.getElem?_cons_zero, ↓reduceIte, Nat.reduceEqDiff, reduceCtorEq, zW, leE, leH, leB, leV, leVs, keepP, liveP, wfE, wfB, wfV, wfL, Bool.and_self, and_self, leVs, leV, Int.natCast_zero]
        intro k hk
        simp -implicitDefEqProofs only [qa, qw, rdK, qx, qz, qA, qC, qE, qF, qI, qJ, qK, qM, qO, qP, qR, qV, qZ, zB, zF, zI, zM, List.length_nil, List.length_cons, zN, List.getD_eq_getElem?_getD, List.getElem?_cons_zero, ↓reduceIte, Nat.reduceEqDiff, Option.getD_some, zO, zQ, List.append_nil, Nat.zero_add, Nat.reduceAdd, List.map_cons, List.map_nil, List.drop_zero, List.take_nil, Bool.and_true, true_and, and_true, Bool.false_eq_true, Nat.le_refl, zZ, kf, jg, ↓jj, ↓jl, ↓jp, ↓qaJ, cx0_fx]
        simp only [br, decide_eq_true_eq, decide_eq_false_iff_not]
        refine ⟨fun h => ?_, fun h => ?_⟩
        · refine call_is (ok15 N k arcs flow hP.1 (by omega) hN.2 hf (fun a ha => (hV.ha a ha).1) (by omega)) ?_ rfl ?_
          · simp [net, li, lb, lendsOk, lendOk, lends, lend, wkL, wk, wkB, pos]
          simp -implicitDefEqProofs only [qz, qC, zB, zF, zI, zM, ↓reduceIte, Nat.reduceEqDiff, List.map_cons, List.map_nil, Bool.and_true, and_true, Bool.false_eq_true, cx0_fx]
          refine call_is (ok30 N k arcs flow hP.1 (by omega) hf) ?_ rfl ?_
          · simp [net, li, lb, lendsOk, lendOk, lends, lend, wkL, wk, wkB, pos]
          simp -implicitDefEqProofs only [qe, qy, qA, qE, qF, qJ, qO, qP, qR, qZ, zF, zI, zJ, zM, ofConst, List.length_nil, List.length_cons, List.getElem?_cons_zero, ↓reduceIte, Nat.reduceEqDiff, zO, zQ, ↓zS, List.append_nil, Nat.zero_add, zW, leE, leH, leB, leV, leVs, keepP, liveP, wfE, wfB, wfV, wfL, Bool.and_true, Bool.and_self, true_and, and_true, and_self, V.v.injEq, Value.int.injEq, Value.bool.injEq, jg, ↓qaB, ↓qaI, bne_self_eq_false]
          exact ⟨by simp only [lo, hi]; omega, k + 1, ⟨by omega, by omega⟩, by simp⟩
        refine call_is sanOk ?_ rfl ?_
        · simp [net, li, lb, lendsOk, lendOk, lends, lend, wkL, wk, wkB, pos]
        simp -implicitDefEqProofs only [qa, qw, rdK, qz, qA, qB, qD, qR, qV, zB, zF, zI, zM, List.length_nil, List.length_cons, zN, List.getD_eq_getElem?_getD, List.getElem?_cons_zero, ↓reduceIte, Nat.reduceEqDiff, Option.getD_some, ↓zR, zT, Nat.zero_add, Nat.reduceAdd, List.map_cons, List.map_nil, List.drop_zero, List.take_nil, Bool.and_true, true_and, and_true, Nat.le_refl, zZ, kf, ↓jj, ↓jl, ↓jp, cx0_fx]
        have e1 := ok32 N arcs flow hV hP.1 hP.2
        have e2 := ok33 N arcs flow hV hP.1 hP.2
        have e3 := ok31 N (restA arcs flow arcs.length)
        generalize arcs.length = L at e1 e2 e3
        cases L with
        | zero =>
          refine call_isA [net N arcs, li flow] _ (.agg [.i N, .nil]) _ [] e1 ?_ rfl rfl ?_
          · simp [net, li, lb, lendsOk, lendOk, lends, lend, wkL, wk, wkB, pos]
          simp -implicitDefEqProofs only [qz, qD, zB, zF, zI, zM, ↓reduceIte, Nat.reduceEqDiff, ↓zR, zT, List.append_nil, List.map_cons, List.map_nil, Bool.and_true, and_true, Bool.false_eq_true, cx0_fx]
          refine call_isA [net N arcs, li flow] _ (.agg [.i N, .nil]) _ [] e2 ?_ rfl rfl ?_
          · simp [net, li, lb, lendsOk, lendOk, lends, lend, wkL, wk, wkB, pos]
          simp -implicitDefEqProofs only [qz, qD, zB, zF, zI, zM, ↓reduceIte, Nat.reduceEqDiff, ↓zR, zT, List.append_nil, List.map_cons, List.map_nil, Bool.and_true, and_true, Bool.false_eq_true, cx0_fx]
          refine call_is e3 ?_ rfl ?_
          · simp [net, lendsOk, lendOk, lends, lend, wkL, wk, wkB, pos, restA]
          simp -implicitDefEqProofs only [qa, qb, qy, qA, qN, qR, qS, zF, zI, zM, ↓reduceIte, Nat.reduceEqDiff, zQ, ↓zR, List.nil_append, zV, resP, tupV, List.reverse_cons, List.reverse_nil, wfV, Bool.and_self, and_self]
        | succ m =>
          refine call_isA [net N arcs, li flow] _ (.agg [.i N, .sl 6 0 (2 * (m + 1))]) _ [.dead, .dead, .dead, .dead, .dead, .arr 4 (restTo arcs flow (m + 1))] e1 ?_ rfl rfl ?_
          · simp [net, li, lb, lendsOk, lendOk, lends, lend, wkL, wk, wkB, pos]
          simp -implicitDefEqProofs only [qz, qD, zB, zF, zI, zM, ↓reduceIte, Nat.reduceEqDiff, ↓zR, zT, List.nil_append, List.cons_append, List.map_cons, List.map_nil, Bool.and_true, and_true, Bool.false_eq_true, cx0_fx]
          refine call_isA [net N arcs, li flow] _ (.agg [.i N, .sl 12 0 (2 * (m + 1))]) _ [.dead, .dead, .dead, .dead, .dead, .arr 4 (restTo arcs flow (m + 1))] e2 ?_ rfl rfl ?_
          · simp [net, li, lb, lendsOk, lendOk, lends, lend, wkL, wk, wkB, pos]
          simp -implicitDefEqProofs only [qz, qD, zB, zF, zI, zM, ↓reduceIte, Nat.reduceEqDiff, ↓zR, zT, List.nil_append, List.cons_append, List.map_cons, List.map_nil, Bool.and_true, and_true, Bool.false_eq_true, cx0_fx]
          refine call_is e3 ?_ rfl ?_
          · simp [net, lendsOk, lendOk, lends, lend, wkL, wk, wkB, blk, restTo_len, ← restA_enc]
            exact restTo_take arcs flow (m + 1)
          simp -implicitDefEqProofs only [qa, qb, qy, qA, qN, qR, qS, zF, zI, zM, ↓reduceIte, Nat.reduceEqDiff, zQ, ↓zR, List.nil_append, zV, resP, tupV, List.reverse_cons, List.reverse_nil, wfV, Bool.and_self, and_self]
    · have hcb : ((cut.length : Int) == N) = false := by simp [hc]
      simp -implicitDefEqProofs only [↓zS, hcb]
      refine call_is (ok21 N arcs flow) ?_ rfl ?_
      · simp [net, li, lb, lendsOk, lendOk, lends, lend, wkL, wk, wkB, pos]
      simp -implicitDefEqProofs only [qE, qF, qI, qJ, qK, qL, qO, qP, qR, qV, qX, zc, zB, zF, zI, zJ, zM, ofConst, List.length_nil, List.length_cons, zN, List.getD_eq_getElem?_getD, List.getElem?_cons_zero, ↓reduceIte, Nat.reduceEqDiff, Option.getD_some, zP, zQ, List.append_nil, Nat.zero_add, Nat.add_zero, List.map_nil, jg, ↓jh, ↓jj, ↓jl, ↓jo, ↓jv, cx0_fx]
      cases hp : possB arcs flow with
      | false =>
        simp -implicitDefEqProofs only [Bool.not_false, ↓zR]
        refine call_is sanOk ?_ rfl ?_
        · simp [net, li, lb, lendsOk, lendOk, lends, lend, wkL, wk, wkB, pos]
        simp -implicitDefEqProofs only [qN, qO, qP, qR, zF, zI, zM, ↓reduceIte, List.nil_append, zV, resP, tupV, List.reverse_cons, List.reverse_nil, wfV, Bool.and_self, and_self]
      | true =>
        simp -implicitDefEqProofs only [Bool.not_true, ↓zS]
        have hP := possOf hp
        have hf := hV.flow hP.1 hP.2
        refine loopP_intro (fun k : Nat => ⟨[(83, .i k), (82, .i N), (5, .ptr 0 0 0), (3, .ro 1 (flow.map encI))], [.var [.i N, .ro 4 (arcs.map Arc.enc)]], 0⟩) (fun k => k ≤ N) (fun k => N - k) 0 (by simp) ?_ ?_
        · simp -implicitDefEqProofs only [zM, List.getElem?_cons_zero, ↓reduceIte, Nat.reduceEqDiff, reduceCtorEq, zW, leE, leH, leB, leV, leVs, keepP, liveP, wfE, wfB, wfV, wfL, Bool.and_self, and_self, leVs, leV, Int.natCast_zero]
        intro k hk
        simp -implicitDefEqProofs only [qa, qw, rdK, qx, qz, qA, qC, qE, qF, qI, qJ, qK, qM, qO, qP, qR, qV, qZ, zB, zF, zI, zM, List.length_nil, List.length_cons, zN, List.getD_eq_getElem?_getD, List.getElem?_cons_zero, ↓reduceIte, Nat.reduceEqDiff, Option.getD_some, zO, zQ, List.append_nil, Nat.zero_add, Nat.reduceAdd, List.map_cons, List.map_nil, List.drop_zero, List.take_nil, Bool.and_true, true_and, and_true, Bool.false_eq_true, Nat.le_refl, zZ, kf, jg, ↓jj, ↓jl, ↓jp, ↓qaJ, cx0_fx]
        simp only [br, decide_eq_true_eq, decide_eq_false_iff_not]
        refine ⟨fun h => ?_, fun h => ?_⟩
        · refine call_is (ok15 N k arcs flow hP.1 (by omega) hN.2 hf (fun a ha => (hV.ha a ha).1) (by omega)) ?_ rfl ?_
          · simp [net, li, lb, lendsOk, lendOk, lends, lend, wkL, wk, wkB, pos]
          simp -implicitDefEqProofs only [qz, qC, zB, zF, zI, zM, ↓reduceIte, Nat.reduceEqDiff, List.map_cons, List.map_nil, Bool.and_true, and_true, Bool.false_eq_true, cx0_fx]
          refine call_is (ok30 N k arcs flow hP.1 (by omega) hf) ?_ rfl ?_
          · simp [net, li, lb, lendsOk, lendOk, lends, lend, wkL, wk, wkB, pos]
          simp -implicitDefEqProofs only [qe, qy, qA, qE, qF, qJ, qO, qP, qR, qZ, zF, zI, zJ, zM, ofConst, List.length_nil, List.length_cons, List.getElem?_cons_zero, ↓reduceIte, Nat.reduceEqDiff, zO, zQ, ↓zS, List.append_nil, Nat.zero_add, zW, leE, leH, leB, leV, leVs, keepP, liveP, wfE, wfB, wfV, wfL, Bool.and_true, Bool.and_self, true_and, and_true, and_self, V.v.injEq, Value.int.injEq, Value.bool.injEq, jg, ↓qaB, ↓qaI, bne_self_eq_false]
          exact ⟨by simp only [lo, hi]; omega, k + 1, ⟨by omega, by omega⟩, by simp⟩
        refine call_is sanOk ?_ rfl ?_
        · simp [net, li, lb, lendsOk, lendOk, lends, lend, wkL, wk, wkB, pos]
        simp -implicitDefEqProofs only [qa, qw, rdK, qz, qA, qB, qD, qR, qV, zB, zF, zI, zM, List.length_nil, List.length_cons, zN, List.getD_eq_getElem?_getD, List.getElem?_cons_zero, ↓reduceIte, Nat.reduceEqDiff, Option.getD_some, ↓zR, zT, Nat.zero_add, Nat.reduceAdd, List.map_cons, List.map_nil, List.drop_zero, List.take_nil, Bool.and_true, true_and, and_true, Nat.le_refl, zZ, kf, ↓jj, ↓jl, ↓jp, cx0_fx]
        have e1 := ok32 N arcs flow hV hP.1 hP.2
        have e2 := ok33 N arcs flow hV hP.1 hP.2
        have e3 := ok31 N (restA arcs flow arcs.length)
        generalize arcs.length = L at e1 e2 e3
        cases L with
        | zero =>
          refine call_isA [net N arcs, li flow] _ (.agg [.i N, .nil]) _ [] e1 ?_ rfl rfl ?_
          · simp [net, li, lb, lendsOk, lendOk, lends, lend, wkL, wk, wkB, pos]
          simp -implicitDefEqProofs only [qz, qD, zB, zF, zI, zM, ↓reduceIte, Nat.reduceEqDiff, ↓zR, zT, List.append_nil, List.map_cons, List.map_nil, Bool.and_true, and_true, Bool.false_eq_true, cx0_fx]
          refine call_isA [net N arcs, li flow] _ (.agg [.i N, .nil]) _ [] e2 ?_ rfl rfl ?_
          · simp [net, li, lb, lendsOk, lendOk, lends, lend, wkL, wk, wkB, pos]
          simp -implicitDefEqProofs only [qz, qD, zB, zF, zI, zM, ↓reduceIte, Nat.reduceEqDiff, ↓zR, zT, List.append_nil, List.map_cons, List.map_nil, Bool.and_true, and_true, Bool.false_eq_true, cx0_fx]
          refine call_is e3 ?_ rfl ?_
          · simp [net, lendsOk, lendOk, lends, lend, wkL, wk, wkB, pos, restA]
          simp -implicitDefEqProofs only [qa, qb, qy, qA, qN, qR, qS, zF, zI, zM, ↓reduceIte, Nat.reduceEqDiff, zQ, ↓zR, List.nil_append, zV, resP, tupV, List.reverse_cons, List.reverse_nil, wfV, Bool.and_self, and_self]
        | succ m =>
          refine call_isA [net N arcs, li flow] _ (.agg [.i N, .sl 6 0 (2 * (m + 1))]) _ [.dead, .dead, .dead, .dead, .dead, .arr 4 (restTo arcs flow (m + 1))] e1 ?_ rfl rfl ?_
          · simp [net, li, lb, lendsOk, lendOk, lends, lend, wkL, wk, wkB, pos]
          simp -implicitDefEqProofs only [qz, qD, zB, zF, zI, zM, ↓reduceIte, Nat.reduceEqDiff, ↓zR, zT, List.nil_append, List.cons_append, List.map_cons, List.map_nil, Bool.and_true, and_true, Bool.false_eq_true, cx0_fx]
          refine call_isA [net N arcs, li flow] _ (.agg [.i N, .sl 12 0 (2 * (m + 1))]) _ [.dead, .dead, .dead, .dead, .dead, .arr 4 (restTo arcs flow (m + 1))] e2 ?_ rfl rfl ?_
          · simp [net, li, lb, lendsOk, lendOk, lends, lend, wkL, wk, wkB, pos]
          simp -implicitDefEqProofs only [qz, qD, zB, zF, zI, zM, ↓reduceIte, Nat.reduceEqDiff, ↓zR, zT, List.nil_append, List.cons_append, List.map_cons, List.map_nil, Bool.and_true, and_true, Bool.false_eq_true, cx0_fx]
          refine call_is e3 ?_ rfl ?_
          · simp [net, lendsOk, lendOk, lends, lend, wkL, wk, wkB, blk, restTo_len, ← restA_enc]
            exact restTo_take arcs flow (m + 1)
          simp -implicitDefEqProofs only [qa, qb, qy, qA, qN, qR, qS, zF, zI, zM, ↓reduceIte, Nat.reduceEqDiff, zQ, ↓zR, List.nil_append, zV, resP, tupV, List.reverse_cons, List.reverse_nil, wfV, Bool.and_self, and_self]
end Go.Fx.F
namespace Go.Fx.F
open Go Go.Fx Go.Proofs
theorem Fn_post {P : Program} {f : FuncId} {xs : List V} {h0 : List Blk} {mv : List Nat} {R R' : V → List Blk → Prop} (h : Fn P f xs h0 mv R) (hR : ∀ r h', R r h' → R' r h') : Fn P f xs h0 mv R' := by
  intro ρ X w vals h1 h2
  refine Calls.mono (h ρ X w vals h1 h2) ?_
  rintro e w' ⟨val, r, h', ρ', q1, q2, q3, q4, q5, q6⟩
  exact ⟨val, r, h', ρ', q1, ⟨hR r h' q2.1, q2.2⟩, q3, q4, q5, q6⟩
theorem ex_map {α β : Type} {g : α → β} : ∀ {els : List β}, (∀ x ∈ els, ∃ a, x = g a) → ∃ l : List α, els = l.map g
  | [], _ => ⟨[], rfl⟩
  | x :: r, h => by
    obtain ⟨a, rfl⟩ := h x List.mem_cons_self
    obtain ⟨l, rfl⟩ := ex_map (els := r) fun y hy => h y (List.mem_cons_of_mem _ hy)
    exact ⟨a :: l, rfl⟩
theorem wf_arc {x : List V} (h : WfT (.st [.int .i64, .int .i64, .int .i64, .int .i64]) x) : ∃ a : Arc, x = a.enc := by
  simp only [WfT, WfTs] at h
  obtain ⟨_, _, rfl, ⟨a, rfl, _⟩, _, _, rfl, ⟨b, rfl, _⟩, _, _, rfl, ⟨c, rfl, _⟩, _, _, rfl, ⟨d, rfl, _⟩, rfl⟩ := h
  exact ⟨⟨a, b, c, d⟩, rfl⟩
theorem wf_net {x : V} (h : WfV (.st [.int .i64, .sl 4 (.st [.int .i64, .int .i64, .int .i64, .int .i64])]) x) : ∃ n arcs, x = rnet n arcs := by
  obtain ⟨cs, h, rfl⟩ := h
  rw [WfTs.eq_2] at h
  obtain ⟨a, b, rfl, h1, h2⟩ := h
  rw [WfTs.eq_2] at h2
  obtain ⟨c, d, rfl, h3, h4⟩ := h2
  rw [WfTs.eq_1] at h4
  subst h4
  simp only [WfT] at h1
  obtain ⟨n, rfl, _⟩ := h1
  rw [WfT] at h3
  obtain ⟨els, rfl, _, he⟩ := h3
  obtain ⟨arcs, rfl⟩ := ex_map (fun x hx => wf_arc (he x hx))
  exact ⟨n, arcs, rfl⟩
theorem wf_int {x : V} (h : WfV (.int .i64) x) : ∃ n, x = .i n := by
  simp only [WfV, WfT] at h
  obtain ⟨n, h, _⟩ := h
  exact ⟨n, by simpa using h⟩
theorem wf_li {x : V} (h : WfV (.sl 1 (.int .i64)) x) : ∃ l, x = rli l := by
  simp only [WfV] at h
  rw [WfT] at h
  obtain ⟨els, h1, _, he⟩ := h
  obtain ⟨l, rfl⟩ := ex_map (g := encI) (fun x hx => by
    have := he x hx
    simp only [WfT] at this
    obtain ⟨n, rfl, _⟩ := this
    exact ⟨n, rfl⟩)
  exact ⟨l, by simpa [rli, rlb] using h1⟩
theorem wf_lb {x : V} (h : WfV (.sl 1 .bool) x) : ∃ l, x = rlb l := by
  simp only [WfV] at h
  rw [WfT] at h
  obtain ⟨els, h1, _, he⟩ := h
  obtain ⟨l, rfl⟩ := ex_map (g := encB) (fun x hx => by
    have := he x hx
    simp only [WfT] at this
    obtain ⟨n, rfl⟩ := this
    exact ⟨n, rfl⟩)
  exact ⟨l, by simpa [rli, rlb] using h1⟩
theorem fn8 : ∀ xs, WfA [.st [.int .i64, .sl 4 (.st [.int .i64, .int .i64, .int .i64, .int .i64])], .int .i64, .int .i64, .sl 1 (.int .i64), .sl 1 .bool] xs → Fn Try.prog 8 xs [] [] (fun r _ => r = .b true) := by
  intro xs h
  obtain ⟨x1, _, rfl, h1, h⟩ := h
  obtain ⟨x2, _, rfl, h2, h⟩ := h
  obtain ⟨x3, _, rfl, h3, h⟩ := h
  obtain ⟨x4, _, rfl, h4, h⟩ := h
  obtain ⟨x5, _, rfl, h5, h⟩ := h
  obtain rfl : _ = [] := h
  obtain ⟨n, arcs, rfl⟩ := wf_net h1
  obtain ⟨f, rfl⟩ := wf_int h2
  obtain ⟨t, rfl⟩ := wf_int h3
  obtain ⟨flow, rfl⟩ := wf_li h4
  obtain ⟨cut, rfl⟩ := wf_lb h5
  exact Fn_post (ok8 n arcs f t flow cut).2 fun r h' h => h.1
end Go.Fx.F
namespace Go.Fx
open Go.RowKit
theorem rep_none {ρ : Nat → Loc} {X : Nat → Prop} {w : World} {h : List Blk} (hr : Rep ρ X w h) : Rep (gvLoc ρ fun _ => true) X w [] :=
  ⟨fun j k _ h1 => by simp [gvLoc] at h1, fun k _ => by simp [gvLoc], fun k b hb => by simp at hb, fun b ho => hr.disj b (gv_own ho), fun k h1 => by simp [gvLoc] at h1, hr.xlt⟩
/-- What a function hands back anew is given up: from now on it is data. -/
theorem Fn_give {P : Program} {f : FuncId} {args : List V} {mv : List Nat} {R : V → List Blk → Prop} {y : V} (h : Fn P f args [] mv R) (hy : ∀ r hs, R r hs → wk y (gvV (fun _ => true) hs r)) : Fn P f args [] mv (Is y) := by
  intro ρ X w vals h1 h2
  refine Calls.mono (h ρ X w vals h1 h2) ?_
  rintro e w' ⟨val, r, h', ρ', q1, q2, q3, q4, q5, q6⟩
  exact ⟨val, y, [], _, q1, ⟨⟨rfl, rfl⟩, Nat.le_refl _⟩, q3.trans gv_fr, rep_none q4, wk_rep _ _ _ (hy r h' q2.1) (gv_rep q4 _ _ q5), fun k hk => by simp at hk⟩
end Go.Fx
namespace Go.Fx.F
open Go Go.Fx Go.Proofs
set_option maxRecDepth 20000
theorem ok_give {f : FuncId} {xs : List V} {x y : V} {hs : List Blk} (h : Ok f xs (IsA x hs)) (hy : wk y (gvV (fun _ => true) hs x)) : Ok f xs (Is y) :=
  ⟨h.1, Fn_give h.2 (by rintro r h' ⟨rfl, rfl⟩; exact hy)⟩
theorem run_nil {N : Nat} {f t : Int} {r : List Int} (hft : f ≠ t) (hf : 0 ≤ f ∧ f < N) (ht : 0 ≤ t ∧ t < N) (h : Run [] N f t [] r) : r = [] := by
  have : round [] N f t [] = none := by
    unfold round
    rw [if_pos]
    show (srch [] N f).1.getD t.toNat 0 = -2
    rw [show srch [] N f = _ from bfs_none N]
    have h0 : f.toNat < (List.replicate N (-2 : Int)).length := by simp; omega
    rw [getD_set h0, if_neg (by omega)]
    rw [List.getD_eq_getElem?_getD, List.getElem?_replicate, if_pos (by omega)]
    rfl
  exact h.det (.stop this)
/-- Both programs' greatest flow, zas data. -/
theorem ok36d (N : Nat) (arcs : List Arc) (f t : Int) (r : List Int) (hV : Val N arcs) (hf : 0 ≤ f ∧ f < N) (ht : 0 ≤ t ∧ t < N) (hft : f ≠ t) (hr : Run arcs N f t (List.replicate arcs.length 0) r) (hl : r.length = arcs.length) :
    Ok 36 [net N arcs, .i f, .i t] (Is (.tup [rli r, rlb (cutOf arcs N f r)])) := by
  cases arcs with
  | nil =>
    have := run_nil hft hf ht hr
    subst this
    refine ok_give (ok36z N f t hV hf ht hft) ?_
    have e1 : List.take N ((cutOf [] N f []).map encB) = (cutOf [] N f []).map encB := List.take_of_length_le (by simp [cutOf, cutK_len])
    simp [gvV, gvL, blk, wk, wkL, wkR, rli, rlb, e1]
    simp [cutOf, cutK_len, wk, wkR]
  | cons a l =>
    refine ok_give (ok36 N l.length (a :: l) f t r rfl hV hf ht hft hr) ?_
    have e1 : List.take N ((cutOf (a :: l) N f r).map encB) = (cutOf (a :: l) N f r).map encB := List.take_of_length_le (by simp [cutOf, cutK_len])
    have e2 : List.take (a :: l).length (r.map encI) = r.map encI := List.take_of_length_le (by simp [hl])
    simp only [gvV, gvL, blk, List.getD_eq_getElem?_getD, lg0, lg1, lg2, lg3, lg4, lg5, lg6, lg7, lg8, lg9, kT, kY, wd, wj, wq, wv, wA, List.getElem?_cons_zero, Option.getD_some, if_true, List.drop_zero, e1, e2, Nat.zero_add]
    simp [wk, wkL, wkR, rli, rlb, hl, cutOf, cutK_len]

theorem take_enc {l : List Int} {n : Nat} (h : l.length = n) : List.take n (l.map encI) = l.map encI := List.take_of_length_le (by simp [h])
theorem take_encB {l : List Bool} {n : Nat} (h : l.length = n) : List.take n (l.map encB) = l.map encB := List.take_of_length_le (by simp [h])
theorem cutOf_len {arcs : List Arc} {N : Nat} {f : Int} {fl : List Int} : (cutOf arcs N f fl).length = N := cutK_len
theorem ok12d (N : Nat) (arcs : List Arc) (f t : Int) (r : List Int) (hV : Val N arcs) (he : endsB N f t = true) (hr : Run arcs N f t (List.replicate arcs.length 0) r) (hl : r.length = arcs.length) :
    Ok 12 [net N arcs, .i f, .i t] (Is (.agg [rli r, rlb (cutOf arcs N f r), .i 0])) := by
  have hE : (0 ≤ f ∧ f < N) ∧ (0 ≤ t ∧ t < N) ∧ f ≠ t := by simpa [endsB] using he
  cases arcs with
  | nil =>
    have := run_nil hE.2.2 hE.1 hE.2.1 hr
    subst this
    refine ok_give (ok12z N f t hV he) ?_
    have e1 : List.take N ((cutOf [] N f []).map encB) = (cutOf [] N f []).map encB := take_encB cutOf_len
    simp [gvV, gvL, blk, wk, wkL, wkR, rli, rlb, e1, cutOf_len]
  | cons a l =>
    refine ok_give (ok12 N l.length (a :: l) f t r rfl hV he hr) ?_
    have e1 : List.take N ((cutOf (a :: l) N f r).map encB) = (cutOf (a :: l) N f r).map encB := take_encB cutOf_len
    have e2 : List.take (a :: l).length (r.map encI) = r.map encI := take_enc hl
    simp only [gvV, gvL, blk, List.getD_eq_getElem?_getD, lg0, lg1, lg2, lg3, lg4, lg5, lg6, lg7, lg8, lg9, kT, kY, wd, wj, wq, wv, wA, List.getElem?_cons_zero, Option.getD_some, if_true, List.drop_zero, e1, e2, Nat.zero_add]
    simp [wk, wkL, wkR, rli, rlb, hl, cutOf_len]
theorem ok12e (n : Int) (arcs : List Arc) (f t : Int) (he : endsB n f t = false) : Ok 12 [net n arcs, .i f, .i t] (Is (.agg [rli [], rlb [], .i 1])) :=
  ok_give (ok12n n arcs f t he) (by simp [gvV, gvL, wk, wkL, wkR, rli, rlb])
theorem ok11e (n : Int) (arcs : List Arc) (f t : Int) (he : endsB n f t = false) : Ok 11 [net n arcs, .i f, .i t] (Is (.tup [rli [], rlb [], .i 1])) := by
  refine ok_give (x := .tup [.nil, .nil, .i 1]) (hs := []) ?_ (by simp [gvV, gvL, wk, wkL, wkR, rli, rlb])
  refine ok_of lw11 (by simp) ?_
  unfold c11
  simp -implicitDefEqProofs only [qF, qI, qO, qP, qR, qT, qV, zB, zF, zI, zJ, zM, ofConst, cells?, List.length_nil, List.length_cons, List.set_cons_zero, zN, List.getD_eq_getElem?_getD, List.getElem?_cons_zero, ↓reduceIte, Nat.reduceEqDiff, Option.getD_some, List.nil_append, List.append_nil, Nat.zero_add, Nat.reduceAdd, Nat.add_zero, reduceCtorEq, freshP, List.map_cons, List.map_nil, List.drop_zero, List.take_nil, true_and, Nat.le_refl, zZ, ka, kf, jg, ↓jh, ↓jj, ↓jl, ↓jp, args0, net]
  refine call_is (ok35 n arcs f t) ?_ rfl ?_
  · simp [net, lendsOk, lendOk, lends, lend, wkL, wk, wkB, pos]
  simp -implicitDefEqProofs only [qF, qI, qJ, qN, qO, qP, qR, zc, zF, zI, zJ, zM, ofConst, List.length_nil, List.length_cons, ↓reduceIte, Nat.reduceEqDiff, zP, zQ, Bool.not_false, ↓zR, List.nil_append, List.cons_append, List.append_nil, Nat.zero_add, resP, tupV, List.reverse_cons, List.reverse_nil, leH, keepP, wfB, wfV, wfL, Bool.and_self, and_self, Nat.le_refl, jg, he, retP_isA]
theorem ok11d (N : Nat) (arcs : List Arc) (f t : Int) (r : List Int) (hV : Val N arcs) (he : endsB N f t = true) (hr : Run arcs N f t (List.replicate arcs.length 0) r) (hl : r.length = arcs.length) :
    Ok 11 [net N arcs, .i f, .i t] (Is (.tup [rli r, rlb (cutOf arcs N f r), .i 0])) := by
  have hE : (0 ≤ f ∧ f < N) ∧ (0 ≤ t ∧ t < N) ∧ f ≠ t := by simpa [endsB] using he
  refine ok_of lw11 (by simp) ?_
  unfold c11
  simp -implicitDefEqProofs only [qF, qI, qO, qP, qR, qT, qV, zB, zF, zI, zJ, zM, ofConst, cells?, List.length_nil, List.length_cons, List.set_cons_zero, zN, List.getD_eq_getElem?_getD, List.getElem?_cons_zero, ↓reduceIte, Nat.reduceEqDiff, Option.getD_some, List.nil_append, List.append_nil, Nat.zero_add, Nat.reduceAdd, Nat.add_zero, reduceCtorEq, freshP, List.map_cons, List.map_nil, List.drop_zero, List.take_nil, true_and, Nat.le_refl, zZ, ka, kf, jg, ↓jh, ↓jj, ↓jl, ↓jp, args0, net]
  refine call_is (ok35 N arcs f t) ?_ rfl ?_
  · simp [net, lendsOk, lendOk, lends, lend, wkL, wk, wkB, pos]
  simp -implicitDefEqProofs only [qE, qF, qI, qJ, qO, qP, qR, qV, zc, zB, zF, zI, zM, List.length_nil, List.length_cons, zN, List.getD_eq_getElem?_getD, List.getElem?_cons_zero, ↓reduceIte, Nat.reduceEqDiff, Option.getD_some, zP, zQ, Bool.not_true, ↓zS, List.append_nil, Nat.zero_add, Nat.reduceAdd, reduceCtorEq, List.map_cons, List.map_nil, List.drop_zero, List.take_nil, true_and, Nat.le_refl, zZ, kf, jg, ↓jj, ↓jl, ↓jp, he]
  refine call_is (ok36d N arcs f t r hV hE.1 hE.2.1 hE.2.2 hr hl) ?_ rfl ?_
  · simp [net, lendsOk, lendOk, lends, lend, wkL, wk, wkB, pos]
  simp -implicitDefEqProofs only [qF, qI, qN, qO, qP, qR, zC, zF, zI, zJ, zM, ofConst, List.length_nil, List.length_cons, List.getElem?_cons_zero, ↓reduceIte, Nat.reduceEqDiff, List.nil_append, List.cons_append, List.append_nil, Nat.zero_add, zV, resP, tupV, List.reverse_cons, List.reverse_nil, wfV, wfL, Bool.and_self, and_self, lg0, jg, ↓jh, ↓jJ, rli, rlb]
/-- What the rounds keep. -/
theorem Run.keep {N : Nat} {arcs : List Arc} (hV : Val N arcs) {f t : Int} (hf : 0 ≤ f ∧ f < N) (ht : 0 ≤ t ∧ t < N) {fl r : List Int} (h : Run arcs N f t fl r) :
    fl.length = arcs.length → possP arcs fl → r.length = arcs.length ∧ possP arcs r ∧ round arcs N f t r = none ∧ ∃ d, 0 ≤ d ∧ ∀ x, valTo arcs x r arcs.length = valTo arcs x fl arcs.length + (if f = x then d else 0) - (if t = x then d else 0) := by
  induction h with
  | stop h => exact fun h1 h2 => ⟨h1, h2, h, 0, Int.le_refl _, fun x => by split <;> split <;> omega⟩
  | go h _ ih =>
    intro h1 h2
    obtain ⟨q1, q2, d, q3, q4⟩ := round_ok hV hf ht h1 h2 h
    obtain ⟨p1, p2, p3, d', p4, p5⟩ := ih q1 q2
    refine ⟨p1, p2, p3, d + d', by omega, fun x => ?_⟩
    rw [p5, q4]
    split <;> split <;> omega
theorem zero_val (arcs : List Arc) (x : Int) (n : Nat) : ∀ k, valTo arcs x (List.replicate n 0) k = 0
  | 0 => rfl
  | k + 1 => by
    have : (List.replicate n (0 : Int)).getD k 0 = 0 := by
      rw [List.getD_eq_getElem?_getD, List.getElem?_replicate]
      split <;> rfl
    simp only [valTo, zero_val arcs x n k, this]
    split <;> split <;> rfl
theorem zero_poss {N : Nat} {arcs : List Arc} (hV : Val N arcs) : possP arcs (List.replicate arcs.length 0) := fun i h1 h2 => by
  have := (hV.ha arcs[i] (List.getElem_mem h2)).2
  simp; omega
/-- The greatest flow that the rounds end with. -/
structure Grt (N : Nat) (arcs : List Arc) (f t : Int) (r : List Int) : Prop where
  run : Run arcs N f t (List.replicate arcs.length 0) r
  len : r.length = arcs.length
  pos : possP arcs r
  stop : round arcs N f t r = none
  val : ∃ d, 0 ≤ d ∧ ∀ x, valTo arcs x r arcs.length = (if f = x then d else 0) - (if t = x then d else 0)
theorem grt {N : Nat} {arcs : List Arc} (hV : Val N arcs) {f t : Int} (hE : (0 ≤ f ∧ f < N) ∧ (0 ≤ t ∧ t < N) ∧ f ≠ t) : ∃ r, Grt N arcs f t r := by
  obtain ⟨r, hr⟩ := run_ends hV hE.1 hE.2.1 hE.2.2 (((arcs.length : Int) * 1073741824 - valTo arcs f (List.replicate arcs.length 0) arcs.length).toNat) (List.replicate arcs.length 0) (by simp) (zero_poss hV) (by omega)
  obtain ⟨h1, h2, h3, d, h4, h5⟩ := hr.keep hV hE.1 hE.2.1 (by simp) (zero_poss hV)
  exact ⟨r, hr, h1, h2, h3, d, h4, fun x => by rw [h5, zero_val]; omega⟩
theorem ok3 (n : Int) (arcs : List Arc) (f t : Int) : Ok 3 [rnet n arcs, .i f, .i t] (Is (.b true)) := by
  refine ok_of lw3 (by simp) ?_
  unfold c3
  simp -implicitDefEqProofs only [qF, qI, qO, qP, qR, qT, qV, zB, zF, zI, zJ, zM, ofConst, cells?, List.length_nil, List.length_cons, List.set_cons_zero, zN, List.getD_eq_getElem?_getD, List.getElem?_cons_zero, ↓reduceIte, Nat.reduceEqDiff, Option.getD_some, List.nil_append, List.append_nil, Nat.zero_add, Nat.reduceAdd, Nat.add_zero, freshP, List.map_cons, List.map_nil, List.drop_zero, List.take_nil, true_and, Nat.le_refl, zZ, ka, kf, jg, ↓jh, ↓jj, ↓jl, ↓jp, args0, rnet]
  refine call_is (ok9 n arcs 12 40) ?_ rfl ?_
  · simp [net, lendsOk, lendOk, lends, lend, wkL, wk, wkB, pos]
  cases hF : (decide (n ≤ 12 ∧ (arcs.length : Int) ≤ 40) && validB n arcs) with
  | false =>
    simp -implicitDefEqProofs only [qF, qI, qJ, qO, qP, zc, zB, zF, zI, zM, List.length_nil, List.length_cons, ↓reduceIte, zP, zQ, Bool.not_false, ↓zR, List.append_nil, Nat.zero_add, List.map_nil, jg]
    refine call_is sanOk ?_ rfl ?_
    · simp [lendsOk, lendOk, lends, lend, wkL, wk, wkB, pos]
    simp -implicitDefEqProofs only [qN, qO, qP, qR, zF, zI, zM, ↓reduceIte, List.nil_append, zV, resP, tupV, List.reverse_cons, List.reverse_nil, wfV, Bool.and_self, and_self]
  | true =>
    simp only [Bool.and_eq_true, decide_eq_true_eq] at hF
    obtain ⟨N, rfl, hV⟩ := valOf hF.2
    simp -implicitDefEqProofs only [qE, qF, qI, qJ, qO, qP, qR, qV, zc, zB, zF, zI, zM, List.length_nil, List.length_cons, zN, List.getD_eq_getElem?_getD, List.getElem?_cons_zero, ↓reduceIte, Nat.reduceEqDiff, Option.getD_some, zP, zQ, Bool.not_true, ↓zS, List.append_nil, Nat.zero_add, Nat.reduceAdd, reduceCtorEq, List.map_cons, List.map_nil, List.drop_zero, List.take_nil, true_and, Nat.le_refl, zZ, kf, jg, ↓jj, ↓jl, ↓jp]
    cases he : endsB N f t with
    | false =>
      refine call_is (ok11e N arcs f t he) ?_ rfl ?_
      · simp [net, lendsOk, lendOk, lends, lend, wkL, wk, wkB, pos]
      simp -implicitDefEqProofs only [qF, qI, qO, qP, qR, qV, zB, zC, zF, zI, zM, List.length_nil, List.length_cons, zN, List.getD_eq_getElem?_getD, List.getElem?_cons_zero, ↓reduceIte, Nat.reduceEqDiff, Option.getD_some, List.nil_append, List.cons_append, Nat.zero_add, Nat.reduceAdd, reduceCtorEq, List.map_cons, List.map_nil, List.drop_zero, List.take_nil, true_and, Nat.le_refl, lg0, zZ, ka, lg1, kf, jg, ↓jh, ↓jj, ↓jl, ↓jp, ↓jJ]
      refine call_is (ok12e N arcs f t he) ?_ rfl ?_
      · simp [net, lendsOk, lendOk, lends, lend, wkL, wk, wkB, pos]
      simp -implicitDefEqProofs only [qF, qI, qO, qP, qU, qW, zB, zF, zG, zI, zM, ofConst, cells?, List.length_nil, List.length_cons, List.set_cons_zero, splice, zN, List.getD_eq_getElem?_getD, List.getElem?_cons_zero, ↓reduceIte, Nat.reduceEqDiff, Option.getD_some, List.nil_append, List.cons_append, List.append_nil, Nat.zero_add, Nat.reduceAdd, Nat.add_zero, freshP, List.map_cons, List.map_nil, List.take_zero, List.drop_nil, List.all_cons, List.all_nil, isC, Bool.and_true, Bool.and_self, true_and, and_true, and_self, List.not_mem_nil, not_false_eq_true, Nat.le_refl, lg0, zX, zY, ke, ki, jg, ↓jh, ↓jq, ↓jr, cx0_bn, rli, rlb]
      refine call_is sanOk ?_ rfl ?_
      · simp [lendsOk, lendOk, lends, lend, wkL, wk, wkB, pos]
      simp -implicitDefEqProofs only [qP, qQ, qR, qS, qV, qX, qZ, zB, zF, zI, zM, zN, List.getD_eq_getElem?_getD, List.getElem?_cons_zero, ↓reduceIte, Nat.reduceEqDiff, Option.getD_some, zO, zQ, ↓zR, zT, Nat.zero_add, Nat.add_zero, List.map_cons, List.map_nil, true_and, lg0, lg1, ↓jh, ↓jj, ↓jl, ↓jo, ↓jv, ↓qaH, beq_self_eq_true]
      refine call_is (ok13 [] []) ?_ rfl ?_
      · simp [li, lendsOk, lendOk, lends, lend, wkL, wk, wkB, pos]
      simp -implicitDefEqProofs only [qP, qQ, qR, qS, qV, qX, zB, zF, zI, zM, zN, List.getD_eq_getElem?_getD, List.getElem?_cons_zero, ↓reduceIte, Nat.reduceEqDiff, Option.getD_some, zQ, ↓zR, zT, Nat.zero_add, List.map_cons, List.map_nil, lg0, ↓jh, ↓jj, ↓jl, ↓jo, ↓jv, decide_true]
      refine call_is (ok14 [] []) ?_ rfl ?_
      · simp [lb, lendsOk, lendOk, lends, lend, wkL, wk, wkB, pos]
      simp -implicitDefEqProofs only [qN, qO, qP, qR, qS, zF, zI, zM, ↓reduceIte, Nat.reduceEqDiff, zQ, ↓zR, List.nil_append, zV, resP, tupV, List.reverse_cons, List.reverse_nil, wfV, Bool.and_self, and_self, decide_true]
    | true =>
      have hE : (0 ≤ f ∧ f < N) ∧ (0 ≤ t ∧ t < N) ∧ f ≠ t := by simpa [endsB] using he
      obtain ⟨r, hr⟩ := grt hV hE
      refine call_is (ok11d N arcs f t r hV he hr.run hr.len) ?_ rfl ?_
      · simp [net, lendsOk, lendOk, lends, lend, wkL, wk, wkB, pos]
      simp -implicitDefEqProofs only [qF, qI, qO, qP, qR, qV, zB, zC, zF, zI, zM, List.length_nil, List.length_cons, zN, List.getD_eq_getElem?_getD, List.getElem?_cons_zero, ↓reduceIte, Nat.reduceEqDiff, Option.getD_some, List.nil_append, List.cons_append, Nat.zero_add, Nat.reduceAdd, reduceCtorEq, List.map_cons, List.map_nil, List.drop_zero, List.take_nil, true_and, Nat.le_refl, lg0, zZ, ka, lg1, kf, jg, ↓jh, ↓jj, ↓jl, ↓jp, ↓jJ]
      refine call_is (ok12d N arcs f t r hV he hr.run hr.len) ?_ rfl ?_
      · simp [net, lendsOk, lendOk, lends, lend, wkL, wk, wkB, pos]
      simp -implicitDefEqProofs only [qF, qI, qO, qP, qU, qW, zB, zF, zG, zI, zM, ofConst, cells?, List.length_nil, List.length_cons, List.set_cons_zero, splice, zN, List.getD_eq_getElem?_getD, List.getElem?_cons_zero, ↓reduceIte, Nat.reduceEqDiff, Option.getD_some, List.nil_append, List.cons_append, List.append_nil, Nat.zero_add, Nat.reduceAdd, Nat.add_zero, freshP, List.map_cons, List.map_nil, List.take_zero, List.drop_nil, List.all_cons, List.all_nil, isC, Bool.and_true, Bool.and_self, true_and, and_true, and_self, List.not_mem_nil, not_false_eq_true, Nat.le_refl, lg0, zX, zY, ke, ki, jg, ↓jh, ↓jq, ↓jr, cx0_bn, rli, rlb]
      refine call_is sanOk ?_ rfl ?_
      · simp [lendsOk, lendOk, lends, lend, wkL, wk, wkB, pos]
      simp -implicitDefEqProofs only [qP, qQ, qR, qS, qV, qX, qZ, zB, zF, zI, zM, zN, List.getD_eq_getElem?_getD, List.getElem?_cons_zero, ↓reduceIte, Nat.reduceEqDiff, Option.getD_some, zO, zQ, ↓zR, zT, Nat.zero_add, Nat.add_zero, List.map_cons, List.map_nil, true_and, lg0, lg1, ↓jh, ↓jj, ↓jl, ↓jo, ↓jv, ↓qaH, beq_self_eq_true]
      refine call_is (ok13 r r) ?_ rfl ?_
      · simp [li, lendsOk, lendOk, lends, lend, wkL, wk, wkB, pos]
      simp -implicitDefEqProofs only [qP, qQ, qR, qS, qV, qX, zB, zF, zI, zM, zN, List.getD_eq_getElem?_getD, List.getElem?_cons_zero, ↓reduceIte, Nat.reduceEqDiff, Option.getD_some, zQ, ↓zR, zT, Nat.zero_add, List.map_cons, List.map_nil, lg0, ↓jh, ↓jj, ↓jl, ↓jo, ↓jv, decide_true]
      refine call_is (ok14 (cutOf arcs N f r) (cutOf arcs N f r)) ?_ rfl ?_
      · simp [lb, lendsOk, lendOk, lends, lend, wkL, wk, wkB, pos]
      simp -implicitDefEqProofs only [qN, qO, qP, qR, qS, zF, zI, zM, ↓reduceIte, Nat.reduceEqDiff, zQ, ↓zR, List.nil_append, zV, resP, tupV, List.reverse_cons, List.reverse_nil, wfV, Bool.and_self, and_self, decide_true]
theorem fn3 : ∀ xs, WfA [.st [.int .i64, .sl 4 (.st [.int .i64, .int .i64, .int .i64, .int .i64])], .int .i64, .int .i64] xs → Fn Try.prog 3 xs [] [] (fun r _ => r = .b true) := by
  intro xs h
  obtain ⟨x1, _, rfl, h1, h⟩ := h
  obtain ⟨x2, _, rfl, h2, h⟩ := h
  obtain ⟨x3, _, rfl, h3, h⟩ := h
  obtain rfl : _ = [] := h
  obtain ⟨n, arcs, rfl⟩ := wf_net h1
  obtain ⟨f, rfl⟩ := wf_int h2
  obtain ⟨t, rfl⟩ := wf_int h3
  exact Fn_post (ok3 n arcs f t).2 fun r h' h => h.1
end Go.Fx.F
