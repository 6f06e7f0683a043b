import Derived.Test.YtmddpcjkpbjkeaaT18
import Derived.Test.YtmddpcjkpbjkeaaFSan
import Derived.Test.YtmddpcjkpbjkeaaFxLaw
import Derived.Test.YtmddpcjkpbjkeaaFxRunSound
set_option linter.unusedVariables false
set_option linter.unusedSimpArgs false
set_option linter.unusedSectionVars false
namespace Go.Fx.F
open Go Go.Fx Go.Proofs
set_option maxRecDepth 20000
def rnet (n : Int) (arcs : List Arc) : V := .agg [.i n, .ro 4 (arcs.map Arc.enc)]
def rli (l : List Int) : V := .ro 1 (l.map encI)
def rlb (l : List Bool) : V := .ro 1 (l.map encB)
theorem valOf {n : Int} {arcs : List Arc} (h : validB n arcs = true) : ∃ N : Nat, n = N ∧ Val N arcs := by
  simp only [validB, Bool.and_eq_true, decide_eq_true_eq, List.all_eq_true, validA] at h
  refine ⟨n.toNat, by omega, ⟨by omega, by omega, fun a ha => ?_⟩⟩
  have := h.2 a ha
  omega
theorem possOf {arcs : List Arc} {flow : List Int} (h : possB arcs flow = true) : flow.length = arcs.length ∧ possP arcs flow := by
  simpa [possB] using h
theorem sanOk : Ok 10 [] (Is (.b true)) := san
theorem ok8 (n : Int) (arcs : List Arc) (f t : Int) (flow : List Int) (cut : List Bool) : Ok 8 [rnet n arcs, .i f, .i t, rli flow, rlb cut] (Is (.b true)) := by
  refine ok_of lw8 (by simp) ?_
  unfold c8
  by_cases q1 : 30 < n
  · by_cases q2 : n ≤ 256
    · simp -implicitDefEqProofs only [qw, rdK, qx, qz, qA, qC, qE, qF, qI, qJ, qO, qP, qQ, qR, qS, qT, qV, qX, qZ, za, zB, zF, zI, zJ, zM, ofConst, cells?, List.length_nil, List.length_cons, List.set_cons_zero, zN, List.getD_eq_getElem?_getD, List.getElem?_cons_zero, ↓reduceIte, Nat.reduceEqDiff, Option.getD_some, zO, zQ, Bool.not_true, Bool.not_false, ↓zR, ↓zS, zT, List.nil_append, List.append_nil, Nat.zero_add, Nat.reduceAdd, Nat.add_zero, freshP, List.map_cons, List.map_nil, List.drop_zero, List.take_nil, Bool.and_true, true_and, and_true, List.length_map, Bool.false_eq_true, Nat.le_refl, lg0, zZ, ka, kf, jg, ↓jh, ↓jj, ↓jl, ↓jo, ↓jp, ↓jv, ↓jE, ↓qaK, ↓qaL, List.length_map, cx0_fx, args0, rnet, rli, rlb, q1, q2, decide_true]
      refine call_is sanOk ?_ rfl ?_
      · simp [net, li, lb, lendsOk, lendOk, lends, lend, wkL, wk, wkB, pos]
      simp -implicitDefEqProofs only [qN, qO, qP, qR, zF, zI, zM, ↓reduceIte, List.nil_append, zV, resP, tupV, List.reverse_cons, List.reverse_nil, wfV, Bool.and_self, and_self]
    · simp -implicitDefEqProofs only [qw, rdK, qx, qz, qA, qC, qE, qF, qI, qJ, qO, qP, qQ, qR, qS, qT, qV, qX, qZ, za, zB, zF, zI, zJ, zM, ofConst, cells?, List.length_nil, List.length_cons, List.set_cons_zero, zN, List.getD_eq_getElem?_getD, List.getElem?_cons_zero, ↓reduceIte, Nat.reduceEqDiff, Option.getD_some, zO, zQ, Bool.not_true, Bool.not_false, ↓zR, ↓zS, zT, List.nil_append, List.append_nil, Nat.zero_add, Nat.reduceAdd, Nat.add_zero, freshP, List.map_cons, List.map_nil, List.drop_zero, List.take_nil, Bool.and_true, true_and, and_true, List.length_map, Bool.false_eq_true, Nat.le_refl, lg0, zZ, ka, kf, jg, ↓jh, ↓jj, ↓jl, ↓jo, ↓jp, ↓jv, ↓jE, ↓qaK, ↓qaL, List.length_map, cx0_fx, args0, rnet, rli, rlb, q1, q2, decide_true, decide_false]
      simp only [br, decide_eq_true_eq, decide_eq_false_iff_not]
      have hv : validB n arcs = false := by
        simp [validB]; omega
      refine fun hm => ⟨fun h => ?_, fun h => ?_⟩
      · refine call_is sanOk ?_ rfl ?_
        · simp [net, li, lb, lendsOk, lendOk, lends, lend, wkL, wk, wkB, pos]
        simp -implicitDefEqProofs only [qN, qO, qP, qR, zF, zI, zM, ↓reduceIte, List.nil_append, zV, resP, tupV, List.reverse_cons, List.reverse_nil, wfV, Bool.and_self, and_self]
      · refine call_is (ok25 n arcs) ?_ rfl ?_
        · simp [net, li, lb, lendsOk, lendOk, lends, lend, wkL, wk, wkB, pos]
        simp -implicitDefEqProofs only [qz, qC, zB, zF, zI, zM, ↓reduceIte, Nat.reduceEqDiff, List.map_cons, List.map_nil, Bool.and_true, and_true, Bool.false_eq_true, cx0_fx]
        refine call_is (ok26 n arcs) ?_ rfl ?_
        · simp [net, li, lb, lendsOk, lendOk, lends, lend, wkL, wk, wkB, pos]
        simp -implicitDefEqProofs only [qq, qy, qA, qE, qF, qI, qJ, qP, qV, zk, zB, zF, zI, zM, List.length_nil, List.length_cons, zN, List.getD_eq_getElem?_getD, List.getElem?_cons_zero, ↓reduceIte, Nat.reduceEqDiff, Option.getD_some, zP, zQ, ↓zS, List.append_nil, Nat.zero_add, Nat.reduceAdd, List.map_cons, List.map_nil, List.drop_zero, List.take_nil, true_and, Nat.le_refl, zZ, kf, jg, ↓jj, ↓jl, ↓jp, bne_self_eq_false]
        refine call_is (ok26 n arcs) ?_ rfl ?_
        · simp [net, li, lb, lendsOk, lendOk, lends, lend, wkL, wk, wkB, pos]
        simp -implicitDefEqProofs only [qa, qw, rdK, qx, qz, qA, qC, qE, qF, qI, qJ, qO, qP, qR, qV, zc, zB, zF, zI, zM, List.length_nil, List.length_cons, zN, List.getD_eq_getElem?_getD, List.getElem?_cons_zero, ↓reduceIte, Nat.reduceEqDiff, Option.getD_some, zP, zQ, List.append_nil, Nat.zero_add, Nat.reduceAdd, reduceCtorEq, List.map_cons, List.map_nil, List.drop_zero, List.take_nil, Bool.and_true, true_and, and_true, Nat.le_refl, zZ, kf, jg, ↓jj, ↓jl, ↓jp, cx0_fx]
        simp -implicitDefEqProofs only [hv, Bool.not_false, ↓zR]
        refine call_is sanOk ?_ rfl ?_
        · simp [net, li, lb, lendsOk, lendOk, lends, lend, wkL, wk, wkB, pos]
        simp -implicitDefEqProofs only [qN, qO, qP, qR, zF, zI, zM, ↓reduceIte, List.nil_append, zV, resP, tupV, List.reverse_cons, List.reverse_nil, wfV, Bool.and_self, and_self]
  simp -implicitDefEqProofs only [qw, rdK, qx, qz, qA, qC, qE, qF, qI, qJ, qO, qP, qQ, qR, qS, qT, qV, qX, qZ, za, zB, zF, zI, zJ, zM, ofConst, cells?, List.length_nil, List.length_cons, List.set_cons_zero, zN, List.getD_eq_getElem?_getD, List.getElem?_cons_zero, ↓reduceIte, Nat.reduceEqDiff, Option.getD_some, zO, zQ, Bool.not_true, Bool.not_false, ↓zR, ↓zS, zT, List.nil_append, List.append_nil, Nat.zero_add, Nat.reduceAdd, Nat.add_zero, freshP, List.map_cons, List.map_nil, List.drop_zero, List.take_nil, Bool.and_true, true_and, and_true, List.length_map, Bool.false_eq_true, Nat.le_refl, lg0, zZ, ka, kf, jg, ↓jh, ↓jj, ↓jl, ↓jo, ↓jp, ↓jv, ↓jE, ↓qaK, ↓qaL, List.length_map, cx0_fx, args0, rnet, rli, rlb, q1, decide_false]
  simp only [br, decide_eq_true_eq, decide_eq_false_iff_not]
  refine fun hm => ⟨fun h => ?_, fun h => ?_⟩
  · refine call_is sanOk ?_ rfl ?_
    · simp [net, li, lb, lendsOk, lendOk, lends, lend, wkL, wk, wkB, pos]
    simp -implicitDefEqProofs only [qN, qO, qP, qR, zF, zI, zM, ↓reduceIte, List.nil_append, zV, resP, tupV, List.reverse_cons, List.reverse_nil, wfV, Bool.and_self, and_self]
  refine call_is (ok25 n arcs) ?_ rfl ?_
  · simp [net, li, lb, lendsOk, lendOk, lends, lend, wkL, wk, wkB, pos]
  simp -implicitDefEqProofs only [qz, qC, zB, zF, zI, zM, ↓reduceIte, Nat.reduceEqDiff, List.map_cons, List.map_nil, Bool.and_true, and_true, Bool.false_eq_true, cx0_fx]
  refine call_is (ok26 n arcs) ?_ rfl ?_
  · simp [net, li, lb, lendsOk, lendOk, lends, lend, wkL, wk, wkB, pos]
  simp -implicitDefEqProofs only [qq, qy, qA, qE, qF, qI, qJ, qP, qV, zk, zB, zF, zI, zM, List.length_nil, List.length_cons, zN, List.getD_eq_getElem?_getD, List.getElem?_cons_zero, ↓reduceIte, Nat.reduceEqDiff, Option.getD_some, zP, zQ, ↓zS, List.append_nil, Nat.zero_add, Nat.reduceAdd, List.map_cons, List.map_nil, List.drop_zero, List.take_nil, true_and, Nat.le_refl, zZ, kf, jg, ↓jj, ↓jl, ↓jp, bne_self_eq_false]
  refine call_is (ok26 n arcs) ?_ rfl ?_
  · simp [net, li, lb, lendsOk, lendOk, lends, lend, wkL, wk, wkB, pos]
  simp -implicitDefEqProofs only [qa, qw, rdK, qx, qz, qA, qC, qE, qF, qI, qJ, qO, qP, qR, qV, zc, zB, zF, zI, zM, List.length_nil, List.length_cons, zN, List.getD_eq_getElem?_getD, List.getElem?_cons_zero, ↓reduceIte, Nat.reduceEqDiff, Option.getD_some, zP, zQ, List.append_nil, Nat.zero_add, Nat.reduceAdd, reduceCtorEq, List.map_cons, List.map_nil, List.drop_zero, List.take_nil, Bool.and_true, true_and, and_true, Nat.le_refl, zZ, kf, jg, ↓jj, ↓jl, ↓jp, cx0_fx]
  cases hv : validB n arcs with
  | false =>
    simp -implicitDefEqProofs only [Bool.not_false, ↓zR]
    refine call_is sanOk ?_ rfl ?_
    · simp [net, li, lb, lendsOk, lendOk, lends, lend, wkL, wk, wkB, pos]
    simp -implicitDefEqProofs only [qN, qO, qP, qR, zF, zI, zM, ↓reduceIte, List.nil_append, zV, resP, tupV, List.reverse_cons, List.reverse_nil, wfV, Bool.and_self, and_self]
  | true =>
    simp -implicitDefEqProofs only [Bool.not_true, ↓zS]
    obtain ⟨N, rfl, hV⟩ := valOf hv
    refine call_is (ok17 N arcs f t flow hV) ?_ rfl ?_
    · simp [net, li, lb, lendsOk, lendOk, lends, lend, wkL, wk, wkB, pos]
    simp -implicitDefEqProofs only [qz, qC, zB, zF, zI, zM, ↓reduceIte, Nat.reduceEqDiff, List.map_cons, List.map_nil, Bool.and_true, and_true, Bool.false_eq_true, cx0_fx]
    refine call_is (ok27 N arcs f t flow hV) ?_ rfl ?_
    · simp [net, li, lb, lendsOk, lendOk, lends, lend, wkL, wk, wkB, pos]
    simp -implicitDefEqProofs only [qa, qe, qw, rdK, qz, qA, qB, qD, qR, qV, qZ, zB, zF, zI, zM, List.length_nil, List.length_cons, zN, List.getD_eq_getElem?_getD, List.getElem?_cons_zero, ↓reduceIte, Nat.reduceEqDiff, Option.getD_some, zO, ↓zS, zT, Nat.zero_add, Nat.reduceAdd, reduceCtorEq, List.map_cons, List.map_nil, List.drop_zero, List.take_nil, Bool.and_true, true_and, and_true, Bool.false_eq_true, Nat.le_refl, zZ, kf, ↓jj, ↓jl, ↓jp, ↓qaI, cx0_fx, bne_self_eq_false]
    refine call_is (ok16 N arcs f t flow cut hV) ?_ rfl ?_
    · simp [net, li, lb, lendsOk, lendOk, lends, lend, wkL, wk, wkB, pos]
    simp -implicitDefEqProofs only [qz, qD, zB, zF, zI, zM, ↓reduceIte, Nat.reduceEqDiff, ↓zS, zT, List.map_cons, List.map_nil, Bool.and_true, and_true, Bool.false_eq_true, cx0_fx]
    refine call_is (ok28 N arcs f t flow cut hV) ?_ rfl ?_
    · simp [net, li, lb, lendsOk, lendOk, lends, lend, wkL, wk, wkB, pos]
    simp -implicitDefEqProofs only [qa, qb, qc, qe, qf, qq, qw, rdK, qx, qy, qz, qA, qB, qD, qE, qF, qI, qJ, qP, qR, qS, qV, qX, qZ, za, zk, zB, zF, zI, zJ, zM, ofConst, List.length_nil, List.length_cons, zN, List.getD_eq_getElem?_getD, List.getElem?_cons_zero, ↓reduceIte, Nat.reduceEqDiff, Option.getD_some, zO, zP, zQ, Bool.not_true, ↓zR, ↓zS, zT, List.append_nil, Nat.zero_add, Nat.reduceAdd, Nat.add_zero, reduceCtorEq, List.map_cons, List.map_nil, List.drop_zero, List.take_nil, Bool.and_true, true_and, and_true, List.length_map, Bool.false_eq_true, Nat.le_refl, zZ, kf, jg, ↓jh, ↓jj, ↓jl, ↓jo, ↓jp, ↓jv, ↓jE, ↓qaH, List.length_map, cx0_fx, bne_self_eq_false]
    intro hcm
    have hN := hV.hn
    have hL := hV.hl
    by_cases hc : (cut.length : Int) = N
    · have hc' : cut.length = N := by omega
      have hcb : ((cut.length : Int) == N) = true := by simp [hc]
      simp -implicitDefEqProofs only [↓zR, hcb]
      refine call_is (ok18 N arcs cut hV hc') ?_ rfl ?_
      · simp [net, li, lb, lendsOk, lendOk, lends, lend, wkL, wk, wkB, pos]
      simp -implicitDefEqProofs only [qz, qD, zB, zF, zI, zM, ↓reduceIte, Nat.reduceEqDiff, ↓zR, zT, List.map_cons, List.map_nil, Bool.and_true, and_true, Bool.false_eq_true, cx0_fx]
      refine call_is (ok29 N arcs cut hV hc') ?_ rfl ?_
      · simp [net, li, lb, lendsOk, lendOk, lends, lend, wkL, wk, wkB, pos]
      simp -implicitDefEqProofs only [qb, qe, qy, qA, qB, qE, qF, qI, qJ, qP, qR, qS, qV, qZ, zB, zF, zI, zM, List.length_nil, List.length_cons, zN, List.getD_eq_getElem?_getD, List.getElem?_cons_zero, ↓reduceIte, Nat.reduceEqDiff, Option.getD_some, zO, zQ, ↓zR, ↓zS, zT, List.append_nil, Nat.zero_add, Nat.reduceAdd, reduceCtorEq, List.map_cons, List.map_nil, List.drop_zero, List.take_nil, true_and, Nat.le_refl, zZ, kf, jg, ↓jj, ↓jl, ↓jp, ↓qaI, bne_self_eq_false]
      refine call_is (ok21 N arcs flow) ?_ rfl ?_
      · simp [net, li, lb, lendsOk, lendOk, lends, lend, wkL, wk, wkB, pos]
      simp -implicitDefEqProofs only [qE, qF, qI, qJ, qK, qL, qO, qP, qR, qV, qX, zc, zB, zF, zI, zJ, zM, ofConst, List.length_nil, List.length_cons, zN, List.getD_eq_getElem?_getD, List.getElem?_cons_zero, ↓reduceIte, Nat.reduceEqDiff, Option.getD_some, zP, zQ, List.append_nil, Nat.zero_add, Nat.add_zero, List.map_nil, jg, ↓jh, ↓jj, ↓jl, ↓jo, ↓jv, cx0_fx]
      cases hp : possB arcs flow with
      | false =>
        simp -implicitDefEqProofs only [Bool.not_false, ↓zR]
        refine call_is sanOk ?_ rfl ?_
        · simp [net, li, lb, lendsOk, lendOk, lends, lend, wkL, wk, wkB, pos]
        simp -implicitDefEqProofs only [qN, qO, qP, qR, zF, zI, zM, ↓reduceIte, List.nil_append, zV, resP, tupV, List.reverse_cons, List.reverse_nil, wfV, Bool.and_self, and_self]
      | true =>
        simp -implicitDefEqProofs only [Bool.not_true, ↓zS]
        have hP := possOf hp
        have hf := hV.flow hP.1 hP.2
        refine loopP_intro (fun k : Nat => ⟨[(83, .i k), (82, .i N), (5, .ptr 0 0 0), (3, .ro 1 (flow.map encI))], [.var [.i N, .ro 4 (arcs.map Arc.enc)]], 0⟩) (fun k => k ≤ N) (fun k => N - k) 0 (by simp) ?_ ?_
        · simp -implicitDefEqProofs only [zM, List.getElem?_cons_zero, ↓reduceIte, Nat.reduceEqDiff, reduceCtorEq, zW, leE, leH, leB, leV, leVs, keepP, liveP, wfE, wfB, wfV, wfL, Bool.and_self, and_self, leVs, leV, Int.natCast_zero]
        intro k hk
        simp -implicitDefEqProofs only [qa, qw, rdK, qx, qz, qA, qC, qE, qF, qI, qJ, qK, qM, qO, qP, qR, qV, qZ, zB, zF, zI, zM, List.length_nil, List.length_cons, zN, List.getD_eq_getElem?_getD, List.getElem?_cons_zero, ↓reduceIte, Nat.reduceEqDiff, Option.getD_some, zO, zQ, List.append_nil, Nat.zero_add, Nat.reduceAdd, List.map_cons, List.map_nil, List.drop_zero, List.take_nil, Bool.and_true, true_and, and_true, Bool.false_eq_true, Nat.le_refl, zZ, kf, jg, ↓jj, ↓jl, ↓jp, ↓qaJ, cx0_fx]
        simp only [br, decide_eq_true_eq, decide_eq_false_iff_not]
        refine ⟨fun h => ?_, fun h => ?_⟩
        · refine call_is (ok15 N k arcs flow hP.1 (by omega) hN.2 hf (fun a ha => (hV.ha a ha).1) (by omega)) ?_ rfl ?_
          · simp [net, li, lb, lendsOk, lendOk, lends, lend, wkL, wk, wkB, pos]
          simp -implicitDefEqProofs only [qz, qC, zB, zF, zI, zM, ↓reduceIte, Nat.reduceEqDiff, List.map_cons, List.map_nil, Bool.and_true, and_true, Bool.false_eq_true, cx0_fx]
          refine call_is (ok30 N k arcs flow hP.1 (by omega) hf) ?_ rfl ?_
          · simp [net, li, lb, lendsOk, lendOk, lends, lend, wkL, wk, wkB, pos]
          simp -implicitDefEqProofs only [qe, qy, qA, qE, qF, qJ, qO, qP, qR, qZ, zF, zI, zJ, zM, ofConst, List.length_nil, List.length_cons, List.getElem?_cons_zero, ↓reduceIte, Nat.reduceEqDiff, zO, zQ, ↓zS, List.append_nil, Nat.zero_add, zW, leE, leH, leB, leV, leVs, keepP, liveP, wfE, wfB, wfV, wfL, Bool.and_true, Bool.and_self, true_and, and_true, and_self, V.v.injEq, Value.int.injEq, Value.bool.injEq, jg, ↓qaB, ↓qaI, bne_self_eq_false]
          exact ⟨by simp only [lo, hi]; omega, k + 1, ⟨by omega, by omega⟩, by simp⟩
        refine call_is sanOk ?_ rfl ?_
        · simp [net, li, lb, lendsOk, lendOk, lends, lend, wkL, wk, wkB, pos]
        simp -implicitDefEqProofs only [qa, qw, rdK, qz, qA, qB, qD, qR, qV, zB, zF, zI, zM, List.length_nil, List.length_cons, zN, List.getD_eq_getElem?_getD, List.getElem?_cons_zero, ↓reduceIte, Nat.reduceEqDiff, Option.getD_some, ↓zR, zT, Nat.zero_add, Nat.reduceAdd, List.map_cons, List.map_nil, List.drop_zero, List.take_nil, Bool.and_true, true_and, and_true, Nat.le_refl, zZ, kf, ↓jj, ↓jl, ↓jp, cx0_fx]
        have e1 := ok32 N arcs flow hV hP.1 hP.2
        have e2 := ok33 N arcs flow hV hP.1 hP.2
        have e3 := ok31 N (restA arcs flow arcs.length)
        generalize arcs.length = L at e1 e2 e3
        cases L with
        | zero =>
          refine call_isA [net N arcs, li flow] _ (.agg [.i N, .nil]) _ [] e1 ?_ rfl rfl ?_
          · simp [net, li, lb, lendsOk, lendOk, lends, lend, wkL, wk, wkB, pos]
          simp -implicitDefEqProofs only [qz, qD, zB, zF, zI, zM, ↓reduceIte, Nat.reduceEqDiff, ↓zR, zT, List.append_nil, List.map_cons, List.map_nil, Bool.and_true, and_true, Bool.false_eq_true, cx0_fx]
          refine call_isA [net N arcs, li flow] _ (.agg [.i N, .nil]) _ [] e2 ?_ rfl rfl ?_
          · simp [net, li, lb, lendsOk, lendOk, lends, lend, wkL, wk, wkB, pos]
          simp -implicitDefEqProofs only [qz, qD, zB, zF, zI, zM, ↓reduceIte, Nat.reduceEqDiff, ↓zR, zT, List.append_nil, List.map_cons, List.map_nil, Bool.and_true, and_true, Bool.false_eq_true, cx0_fx]
          refine call_is e3 ?_ rfl ?_
          · simp [net, lendsOk, lendOk, lends, lend, wkL, wk, wkB, pos, restA]
          simp -implicitDefEqProofs only [qa, qb, qy, qA, qN, qR, qS, zF, zI, zM, ↓reduceIte, Nat.reduceEqDiff, zQ, ↓zR, List.nil_append, zV, resP, tupV, List.reverse_cons, List.reverse_nil, wfV, Bool.and_self, and_self]
        | succ m =>
          refine call_isA [net N arcs, li flow] _ (.agg [.i N, .sl 6 0 (2 * (m + 1))]) _ [.dead, .dead, .dead, .dead, .dead, .arr 4 (restTo arcs flow (m + 1))] e1 ?_ rfl rfl ?_
          · simp [net, li, lb, lendsOk, lendOk, lends, lend, wkL, wk, wkB, pos]
          simp -implicitDefEqProofs only [qz, qD, zB, zF, zI, zM, ↓reduceIte, Nat.reduceEqDiff, ↓zR, zT, List.nil_append, List.cons_append, List.map_cons, List.map_nil, Bool.and_true, and_true, Bool.false_eq_true, cx0_fx]
          refine call_isA [net N arcs, li flow] _ (.agg [.i N, .sl 12 0 (2 * (m + 1))]) _ [.dead, .dead, .dead, .dead, .dead, .arr 4 (restTo arcs flow (m + 1))] e2 ?_ rfl rfl ?_
          · simp [net, li, lb, lendsOk, lendOk, lends, lend, wkL, wk, wkB, pos]
          simp -implicitDefEqProofs only [qz, qD, zB, zF, zI, zM, ↓reduceIte, Nat.reduceEqDiff, ↓zR, zT, List.nil_append, List.cons_append, List.map_cons, List.map_nil, Bool.and_true, and_true, Bool.false_eq_true, cx0_fx]
          refine call_is e3 ?_ rfl ?_
          · simp [net, lendsOk, lendOk, lends, lend, wkL, wk, wkB, blk, restTo_len, ← restA_enc]
            exact restTo_take arcs flow (m + 1)
          simp -implicitDefEqProofs only [qa, qb, qy, qA, qN, qR, qS, zF, zI, zM, ↓reduceIte, Nat.reduceEqDiff, zQ, ↓zR, List.nil_append, zV, resP, tupV, List.reverse_cons, List.reverse_nil, wfV, Bool.and_self, and_self]
    · have hcb : ((cut.length : Int) == N) = false := by simp [hc]
      simp -implicitDefEqProofs only [↓zS, hcb]
      refine call_is (ok21 N arcs flow) ?_ rfl ?_
      · simp [net, li, lb, lendsOk, lendOk, lends, lend, wkL, wk, wkB, pos]
      simp -implicitDefEqProofs only [qE, qF, qI, qJ, qK, qL, qO, qP, qR, qV, qX, zc, zB, zF, zI, zJ, zM, ofConst, List.length_nil, List.length_cons, zN, List.getD_eq_getElem?_getD, List.getElem?_cons_zero, ↓reduceIte, Nat.reduceEqDiff, Option.getD_some, zP, zQ, List.append_nil, Nat.zero_add, Nat.add_zero, List.map_nil, jg, ↓jh, ↓jj, ↓jl, ↓jo, ↓jv, cx0_fx]
      cases hp : possB arcs flow with
      | false =>
        simp -implicitDefEqProofs only [Bool.not_false, ↓zR]
        refine call_is sanOk ?_ rfl ?_
        · simp [net, li, lb, lendsOk, lendOk, lends, lend, wkL, wk, wkB, pos]
        simp -implicitDefEqProofs only [qN, qO, qP, qR, zF, zI, zM, ↓reduceIte, List.nil_append, zV, resP, tupV, List.reverse_cons, List.reverse_nil, wfV, Bool.and_self, and_self]
      | true =>
        simp -implicitDefEqProofs only [Bool.not_true, ↓zS]
        have hP := possOf hp
        have hf := hV.flow hP.1 hP.2
        refine loopP_intro (fun k : Nat => ⟨[(83, .i k), (82, .i N), (5, .ptr 0 0 0), (3, .ro 1 (flow.map encI))], [.var [.i N, .ro 4 (arcs.map Arc.enc)]], 0⟩) (fun k => k ≤ N) (fun k => N - k) 0 (by simp) ?_ ?_
        · simp -implicitDefEqProofs only [zM, List.getElem?_cons_zero, ↓reduceIte, Nat.reduceEqDiff, reduceCtorEq, zW, leE, leH, leB, leV, leVs, keepP, liveP, wfE, wfB, wfV, wfL, Bool.and_self, and_self, leVs, leV, Int.natCast_zero]
        intro k hk
        simp -implicitDefEqProofs only [qa, qw, rdK, qx, qz, qA, qC, qE, qF, qI, qJ, qK, qM, qO, qP, qR, qV, qZ, zB, zF, zI, zM, List.length_nil, List.length_cons, zN, List.getD_eq_getElem?_getD, List.getElem?_cons_zero, ↓reduceIte, Nat.reduceEqDiff, Option.getD_some, zO, zQ, List.append_nil, Nat.zero_add, Nat.reduceAdd, List.map_cons, List.map_nil, List.drop_zero, List.take_nil, Bool.and_true, true_and, and_true, Bool.false_eq_true, Nat.le_refl, zZ, kf, jg, ↓jj, ↓jl, ↓jp, ↓qaJ, cx0_fx]
        simp only [br, decide_eq_true_eq, decide_eq_false_iff_not]
        refine ⟨fun h => ?_, fun h => ?_⟩
        · refine call_is (ok15 N k arcs flow hP.1 (by omega) hN.2 hf (fun a ha => (hV.ha a ha).1) (by omega)) ?_ rfl ?_
          · simp [net, li, lb, lendsOk, lendOk, lends, lend, wkL, wk, wkB, pos]
          simp -implicitDefEqProofs only [qz, qC, zB, zF, zI, zM, ↓reduceIte, Nat.reduceEqDiff, List.map_cons, List.map_nil, Bool.and_true, and_true, Bool.false_eq_true, cx0_fx]
          refine call_is (ok30 N k arcs flow hP.1 (by omega) hf) ?_ rfl ?_
          · simp [net, li, lb, lendsOk, lendOk, lends, lend, wkL, wk, wkB, pos]
          simp -implicitDefEqProofs only [qe, qy, qA, qE, qF, qJ, qO, qP, qR, qZ, zF, zI, zJ, zM, ofConst, List.length_nil, List.length_cons, List.getElem?_cons_zero, ↓reduceIte, Nat.reduceEqDiff, zO, zQ, ↓zS, List.append_nil, Nat.zero_add, zW, leE, leH, leB, leV, leVs, keepP, liveP, wfE, wfB, wfV, wfL, Bool.and_true, Bool.and_self, true_and, and_true, and_self, V.v.injEq, Value.int.injEq, Value.bool.injEq, jg, ↓qaB, ↓qaI, bne_self_eq_false]
          exact ⟨by simp only [lo, hi]; omega, k + 1, ⟨by omega, by omega⟩, by simp⟩
        refine call_is sanOk ?_ rfl ?_
        · simp [net, li, lb, lendsOk, lendOk, lends, lend, wkL, wk, wkB, pos]
        simp -implicitDefEqProofs only [qa, qw, rdK, qz, qA, qB, qD, qR, qV, zB, zF, zI, zM, List.length_nil, List.length_cons, zN, List.getD_eq_getElem?_getD, List.getElem?_cons_zero, ↓reduceIte, Nat.reduceEqDiff, Option.getD_some, ↓zR, zT, Nat.zero_add, Nat.reduceAdd, List.map_cons, List.map_nil, List.drop_zero, List.take_nil, Bool.and_true, true_and, and_true, Nat.le_refl, zZ, kf, ↓jj, ↓jl, ↓jp, cx0_fx]
        have e1 := ok32 N arcs flow hV hP.1 hP.2
        have e2 := ok33 N arcs flow hV hP.1 hP.2
        have e3 := ok31 N (restA arcs flow arcs.length)
        generalize arcs.length = L at e1 e2 e3
        cases L with
        | zero =>
          refine call_isA [net N arcs, li flow] _ (.agg [.i N, .nil]) _ [] e1 ?_ rfl rfl ?_
          · simp [net, li, lb, lendsOk, lendOk, lends, lend, wkL, wk, wkB, pos]
          simp -implicitDefEqProofs only [qz, qD, zB, zF, zI, zM, ↓reduceIte, Nat.reduceEqDiff, ↓zR, zT, List.append_nil, List.map_cons, List.map_nil, Bool.and_true, and_true, Bool.false_eq_true, cx0_fx]
          refine call_isA [net N arcs, li flow] _ (.agg [.i N, .nil]) _ [] e2 ?_ rfl rfl ?_
          · simp [net, li, lb, lendsOk, lendOk, lends, lend, wkL, wk, wkB, pos]
          simp -implicitDefEqProofs only [qz, qD, zB, zF, zI, zM, ↓reduceIte, Nat.reduceEqDiff, ↓zR, zT, List.append_nil, List.map_cons, List.map_nil, Bool.and_true, and_true, Bool.false_eq_true, cx0_fx]
          refine call_is e3 ?_ rfl ?_
          · simp [net, lendsOk, lendOk, lends, lend, wkL, wk, wkB, pos, restA]
          simp -implicitDefEqProofs only [qa, qb, qy, qA, qN, qR, qS, zF, zI, zM, ↓reduceIte, Nat.reduceEqDiff, zQ, ↓zR, List.nil_append, zV, resP, tupV, List.reverse_cons, List.reverse_nil, wfV, Bool.and_self, and_self]
        | succ m =>
          refine call_isA [net N arcs, li flow] _ (.agg [.i N, .sl 6 0 (2 * (m + 1))]) _ [.dead, .dead, .dead, .dead, .dead, .arr 4 (restTo arcs flow (m + 1))] e1 ?_ rfl rfl ?_
          · simp [net, li, lb, lendsOk, lendOk, lends, lend, wkL, wk, wkB, pos]
          simp -implicitDefEqProofs only [qz, qD, zB, zF, zI, zM, ↓reduceIte, Nat.reduceEqDiff, ↓zR, zT, List.nil_append, List.cons_append, List.map_cons, List.map_nil, Bool.and_true, and_true, Bool.false_eq_true, cx0_fx]
          refine call_isA [net N arcs, li flow] _ (.agg [.i N, .sl 12 0 (2 * (m + 1))]) _ [.dead, .dead, .dead, .dead, .dead, .arr 4 (restTo arcs flow (m + 1))] e2 ?_ rfl rfl ?_
          · simp [net, li, lb, lendsOk, lendOk, lends, lend, wkL, wk, wkB, pos]
          simp -implicitDefEqProofs only [qz, qD, zB, zF, zI, zM, ↓reduceIte, Nat.reduceEqDiff, ↓zR, zT, List.nil_append, List.cons_append, List.map_cons, List.map_nil, Bool.and_true, and_true, Bool.false_eq_true, cx0_fx]
          refine call_is e3 ?_ rfl ?_
          · simp [net, lendsOk, lendOk, lends, lend, wkL, wk, wkB, blk, restTo_len, ← restA_enc]
            exact restTo_take arcs flow (m + 1)
          simp -implicitDefEqProofs only [qa, qb, qy, qA, qN, qR, qS, zF, zI, zM, ↓reduceIte, Nat.reduceEqDiff, zQ, ↓zR, List.nil_append, zV, resP, tupV, List.reverse_cons, List.reverse_nil, wfV, Bool.and_self, and_self]
end Go.Fx.F
namespace Go.Fx.F
open Go Go.Fx Go.Proofs
theorem Fn_post {P : Program} {f : FuncId} {xs : List V} {h0 : List Blk} {mv : List Nat} {R R' : V → List Blk → Prop} (h : Fn P f xs h0 mv R) (hR : ∀ r h', R r h' → R' r h') : Fn P f xs h0 mv R' := by
  intro ρ X w vals h1 h2
  refine Calls.mono (h ρ X w vals h1 h2) ?_
  rintro e w' ⟨val, r, h', ρ', q1, q2, q3, q4, q5, q6⟩
  exact ⟨val, r, h', ρ', q1, ⟨hR r h' q2.1, q2.2⟩, q3, q4, q5, q6⟩
theorem ex_map {α β : Type} {g : α → β} : ∀ {els : List β}, (∀ x ∈ els, ∃ a, x = g a) → ∃ l : List α, els = l.map g
  | [], _ => ⟨[], rfl⟩
  | x :: r, h => by
    obtain ⟨a, rfl⟩ := h x List.mem_cons_self
    obtain ⟨l, rfl⟩ := ex_map (els := r) fun y hy => h y (List.mem_cons_of_mem _ hy)
    exact ⟨a :: l, rfl⟩
theorem wf_arc {x : List V} (h : WfT (.st [.int .i64, .int .i64, .int .i64, .int .i64]) x) : ∃ a : Arc, x = a.enc := by
  simp only [WfT, WfTs] at h
  obtain ⟨_, _, rfl, ⟨a, rfl, _⟩, _, _, rfl, ⟨b, rfl, _⟩, _, _, rfl, ⟨c, rfl, _⟩, _, _, rfl, ⟨d, rfl, _⟩, rfl⟩ := h
  exact ⟨⟨a, b, c, d⟩, rfl⟩
theorem wf_net {x : V} (h : WfV (.st [.int .i64, .sl 4 (.st [.int .i64, .int .i64, .int .i64, .int .i64])]) x) : ∃ n arcs, x = rnet n arcs := by
  obtain ⟨cs, h, rfl⟩ := h
  rw [WfTs.eq_2] at h
  obtain ⟨a, b, rfl, h1, h2⟩ := h
  rw [WfTs.eq_2] at h2
  obtain ⟨c, d, rfl, h3, h4⟩ := h2
  rw [WfTs.eq_1] at h4
  subst h4
  simp only [WfT] at h1
  obtain ⟨n, rfl, _⟩ := h1
  rw [WfT] at h3
  obtain ⟨els, rfl, _, he⟩ := h3
  obtain ⟨arcs, rfl⟩ := ex_map (fun x hx => wf_arc (he x hx))
  exact ⟨n, arcs, rfl⟩
theorem wf_int {x : V} (h : WfV (.int .i64) x) : ∃ n, x = .i n := by
  simp only [WfV, WfT] at h
  obtain ⟨n, h, _⟩ := h
  exact ⟨n, by simpa using h⟩
theorem wf_li {x : V} (h : WfV (.sl 1 (.int .i64)) x) : ∃ l, x = rli l := by
  simp only [WfV] at h
  rw [WfT] at h
  obtain ⟨els, h1, _, he⟩ := h
  obtain ⟨l, rfl⟩ := ex_map (g := encI) (fun x hx => by
    have := he x hx
    simp only [WfT] at this
    obtain ⟨n, rfl, _⟩ := this
    exact ⟨n, rfl⟩)
  exact ⟨l, by simpa [rli, rlb] using h1⟩
theorem wf_lb {x : V} (h : WfV (.sl 1 .bool) x) : ∃ l, x = rlb l := by
  simp only [WfV] at h
  rw [WfT] at h
  obtain ⟨els, h1, _, he⟩ := h
  obtain ⟨l, rfl⟩ := ex_map (g := encB) (fun x hx => by
    have := he x hx
    simp only [WfT] at this
    obtain ⟨n, rfl⟩ := this
    exact ⟨n, rfl⟩)
  exact ⟨l, by simpa [rli, rlb] using h1⟩
theorem fn8 : ∀ xs, WfA [.st [.int .i64, .sl 4 (.st [.int .i64, .int .i64, .int .i64, .int .i64])], .int .i64, .int .i64, .sl 1 (.int .i64), .sl 1 .bool] xs → Fn Try.prog 8 xs [] [] (fun r _ => r = .b true) := by
  intro xs h
  obtain ⟨x1, _, rfl, h1, h⟩ := h
  obtain ⟨x2, _, rfl, h2, h⟩ := h
  obtain ⟨x3, _, rfl, h3, h⟩ := h
  obtain ⟨x4, _, rfl, h4, h⟩ := h
  obtain ⟨x5, _, rfl, h5, h⟩ := h
  obtain rfl : _ = [] := h
  obtain ⟨n, arcs, rfl⟩ := wf_net h1
  obtain ⟨f, rfl⟩ := wf_int h2
  obtain ⟨t, rfl⟩ := wf_int h3
  obtain ⟨flow, rfl⟩ := wf_li h4
  obtain ⟨cut, rfl⟩ := wf_lb h5
  exact Fn_post (ok8 n arcs f t flow cut).2 fun r h' h => h.1
end Go.Fx.F
namespace Go.Fx
open Go.RowKit
theorem rep_none {ρ : Nat → Loc} {X : Nat → Prop} {w : World} {h : List Blk} (hr : Rep ρ X w h) : Rep (gvLoc ρ fun _ => true) X w [] :=
  ⟨fun j k _ h1 => by simp [gvLoc] at h1, fun k _ => by simp [gvLoc], fun k b hb => by simp at hb, fun b ho => hr.disj b (gv_own ho), fun k h1 => by simp [gvLoc] at h1, hr.xlt⟩
/-- What a function hands back anew is given up: from now on it is data. -/
theorem Fn_give {P : Program} {f : FuncId} {args : List V} {mv : List Nat} {R : V → List Blk → Prop} {y : V} (h : Fn P f args [] mv R) (hy : ∀ r hs, R r hs → wk y (gvV (fun _ => true) hs r)) : Fn P f args [] mv (Is y) := by
  intro ρ X w vals h1 h2
  refine Calls.mono (h ρ X w vals h1 h2) ?_
  rintro e w' ⟨val, r, h', ρ', q1, q2, q3, q4, q5, q6⟩
  exact ⟨val, y, [], _, q1, ⟨⟨rfl, rfl⟩, Nat.le_refl _⟩, q3.trans gv_fr, rep_none q4, wk_rep _ _ _ (hy r h' q2.1) (gv_rep q4 _ _ q5), fun k hk => by simp at hk⟩
end Go.Fx
namespace Go.Fx.F
open Go Go.Fx Go.Proofs
set_option maxRecDepth 20000
theorem ok_give {f : FuncId} {xs : List V} {x y : V} {hs : List Blk} (h : Ok f xs (IsA x hs)) (hy : wk y (gvV (fun _ => true) hs x)) : Ok f xs (Is y) :=
  ⟨h.1, Fn_give h.2 (by rintro r h' ⟨rfl, rfl⟩; exact hy)⟩
theorem run_nil {N : Nat} {f t : Int} {r : List Int} (hft : f ≠ t) (hf : 0 ≤ f ∧ f < N) (ht : 0 ≤ t ∧ t < N) (h : Run [] N f t [] r) : r = [] := by
  have : round [] N f t [] = none := by
    unfold round
    rw [if_pos]
    show (srch [] N f).1.getD t.toNat 0 = -2
    rw [show srch [] N f = _ from bfs_none N]
    have h0 : f.toNat < (List.replicate N (-2 : Int)).length := by simp; omega
    rw [getD_set h0, if_neg (by omega)]
    rw [List.getD_eq_getElem?_getD, List.getElem?_replicate, if_pos (by omega)]
    rfl
  exact h.det (.stop this)
/-- Both programs' greatest flow, zas data. -/
theorem ok36d (N : Nat) (arcs : List Arc) (f t : Int) (r : List Int) (hV : Val N arcs) (hf : 0 ≤ f ∧ f < N) (ht : 0 ≤ t ∧ t < N) (hft : f ≠ t) (hr : Run arcs N f t (List.replicate arcs.length 0) r) (hl : r.length = arcs.length) :
    Ok 36 [net N arcs, .i f, .i t] (Is (.tup [rli r, rlb (cutOf arcs N f r)])) := by
  cases arcs with
  | nil =>
    have := run_nil hft hf ht hr
    subst this
    refine ok_give (ok36z N f t hV hf ht hft) ?_
    have e1 : List.take N ((cutOf [] N f []).map encB) = (cutOf [] N f []).map encB := List.take_of_length_le (by simp [cutOf, cutK_len])
    simp [gvV, gvL, blk, wk, wkL, wkR, rli, rlb, e1]
    simp [cutOf, cutK_len, wk, wkR]
  | cons a l =>
    refine ok_give (ok36 N l.length (a :: l) f t r rfl hV hf ht hft hr) ?_
    have e1 : List.take N ((cutOf (a :: l) N f r).map encB) = (cutOf (a :: l) N f r).map encB := List.take_of_length_le (by simp [cutOf, cutK_len])
    have e2 : List.take (a :: l).length (r.map encI) = r.map encI := List.take_of_length_le (by simp [hl])
    simp only [gvV, gvL, blk, List.getD_eq_getElem?_getD, lg0, lg1, lg2, lg3, lg4, lg5, lg6, lg7, lg8, lg9, kT, kY, wd, wj, wq, wv, wA, List.getElem?_cons_zero, Option.getD_some, if_true, List.drop_zero, e1, e2, Nat.zero_add]
    simp [wk, wkL, wkR, rli, rlb, hl, cutOf, cutK_len]

theorem take_enc {l : List Int} {n : Nat} (h : l.length = n) : List.take n (l.map encI) = l.map encI := List.take_of_length_le (by simp [h])
theorem take_encB {l : List Bool} {n : Nat} (h : l.length = n) : List.take n (l.map encB) = l.map encB := List.take_of_length_le (by simp [h])
theorem cutOf_len {arcs : List Arc} {N : Nat} {f : Int} {fl : List Int} : (cutOf arcs N f fl).length = N := cutK_len
theorem ok12d (N : Nat) (arcs : List Arc) (f t : Int) (r : List Int) (hV : Val N arcs) (he : endsB N f t = true) (hr : Run arcs N f t (List.replicate arcs.length 0) r) (hl : r.length = arcs.length) :
    Ok 12 [net N arcs, .i f, .i t] (Is (.agg [rli r, rlb (cutOf arcs N f r), .i 0])) := by
  have hE : (0 ≤ f ∧ f < N) ∧ (0 ≤ t ∧ t < N) ∧ f ≠ t := by simpa [endsB] using he
  cases arcs with
  | nil =>
    have := run_nil hE.2.2 hE.1 hE.2.1 hr
    subst this
    refine ok_give (ok12z N f t hV he) ?_
    have e1 : List.take N ((cutOf [] N f []).map encB) = (cutOf [] N f []).map encB := take_encB cutOf_len
    simp [gvV, gvL, blk, wk, wkL, wkR, rli, rlb, e1, cutOf_len]
  | cons a l =>
    refine ok_give (ok12 N l.length (a :: l) f t r rfl hV he hr) ?_
    have e1 : List.take N ((cutOf (a :: l) N f r).map encB) = (cutOf (a :: l) N f r).map encB := take_encB cutOf_len
    have e2 : List.take (a :: l).length (r.map encI) = r.map encI := take_enc hl
    simp only [gvV, gvL, blk, List.getD_eq_getElem?_getD, lg0, lg1, lg2, lg3, lg4, lg5, lg6, lg7, lg8, lg9, kT, kY, wd, wj, wq, wv, wA, List.getElem?_cons_zero, Option.getD_some, if_true, List.drop_zero, e1, e2, Nat.zero_add]
    simp [wk, wkL, wkR, rli, rlb, hl, cutOf_len]
theorem ok12e (n : Int) (arcs : List Arc) (f t : Int) (he : endsB n f t = false) : Ok 12 [net n arcs, .i f, .i t] (Is (.agg [rli [], rlb [], .i 1])) :=
  ok_give (ok12n n arcs f t he) (by simp [gvV, gvL, wk, wkL, wkR, rli, rlb])
theorem ok11e (n : Int) (arcs : List Arc) (f t : Int) (he : endsB n f t = false) : Ok 11 [net n arcs, .i f, .i t] (Is (.tup [rli [], rlb [], .i 1])) := by
  refine ok_give (x := .tup [.nil, .nil, .i 1]) (hs := []) ?_ (by simp [gvV, gvL, wk, wkL, wkR, rli, rlb])
  refine ok_of lw11 (by simp) ?_
  unfold c11
  simp -implicitDefEqProofs only [qF, qI, qO, qP, qR, qT, qV, zB, zF, zI, zJ, zM, ofConst, cells?, List.length_nil, List.length_cons, List.set_cons_zero, zN, List.getD_eq_getElem?_getD, List.getElem?_cons_zero, ↓reduceIte, Nat.reduceEqDiff, Option.getD_some, List.nil_append, List.append_nil, Nat.zero_add, Nat.reduceAdd, Nat.add_zero, reduceCtorEq, freshP, List.map_cons, List.map_nil, List.drop_zero, List.take_nil, true_and, Nat.le_refl, zZ, ka, kf, jg, ↓jh, ↓jj, ↓jl, ↓jp, args0, net]
  refine call_is (ok35 n arcs f t) ?_ rfl ?_
  · simp [net, lendsOk, lendOk, lends, lend, wkL, wk, wkB, pos]
  simp -implicitDefEqProofs only [qF, qI, qJ, qN, qO, qP, qR, zc, zF, zI, zJ, zM, ofConst, List.length_nil, List.length_cons, ↓reduceIte, Nat.reduceEqDiff, zP, zQ, Bool.not_false, ↓zR, List.nil_append, List.cons_append, List.append_nil, Nat.zero_add, resP, tupV, List.reverse_cons, List.reverse_nil, leH, keepP, wfB, wfV, wfL, Bool.and_self, and_self, Nat.le_refl, jg, he, retP_isA]
theorem ok11d (N : Nat) (arcs : List Arc) (f t : Int) (r : List Int) (hV : Val N arcs) (he : endsB N f t = true) (hr : Run arcs N f t (List.replicate arcs.length 0) r) (hl : r.length = arcs.length) :
    Ok 11 [net N arcs, .i f, .i t] (Is (.tup [rli r, rlb (cutOf arcs N f r), .i 0])) := by
  have hE : (0 ≤ f ∧ f < N) ∧ (0 ≤ t ∧ t < N) ∧ f ≠ t := by simpa [endsB] using he
  refine ok_of lw11 (by simp) ?_
  unfold c11
  simp -implicitDefEqProofs only [qF, qI, qO, qP, qR, qT, qV, zB, zF, zI, zJ, zM, ofConst, cells?, List.length_nil, List.length_cons, List.set_cons_zero, zN, List.getD_eq_getElem?_getD, List.getElem?_cons_zero, ↓reduceIte, Nat.reduceEqDiff, Option.getD_some, List.nil_append, List.append_nil, Nat.zero_add, Nat.reduceAdd, Nat.add_zero, reduceCtorEq, freshP, List.map_cons, List.map_nil, List.drop_zero, List.take_nil, true_and, Nat.le_refl, zZ, ka, kf, jg, ↓jh, ↓jj, ↓jl, ↓jp, args0, net]
  refine call_is (ok35 N arcs f t) ?_ rfl ?_
  · simp [net, lendsOk, lendOk, lends, lend, wkL, wk, wkB, pos]
  simp -implicitDefEqProofs only [qE, qF, qI, qJ, qO, qP, qR, qV, zc, zB, zF, zI, zM, List.length_nil, List.length_cons, zN, List.getD_eq_getElem?_getD, List.getElem?_cons_zero, ↓reduceIte, Nat.reduceEqDiff, Option.getD_some, zP, zQ, Bool.not_true, ↓zS, List.append_nil, Nat.zero_add, Nat.reduceAdd, reduceCtorEq, List.map_cons, List.map_nil, List.drop_zero, List.take_nil, true_and, Nat.le_refl, zZ, kf, jg, ↓jj, ↓jl, ↓jp, he]
  refine call_is (ok36d N arcs f t r hV hE.1 hE.2.1 hE.2.2 hr hl) ?_ rfl ?_
  · simp [net, lendsOk, lendOk, lends, lend, wkL, wk, wkB, pos]
  simp -implicitDefEqProofs only [qF, qI, qN, qO, qP, qR, zC, zF, zI, zJ, zM, ofConst, List.length_nil, List.length_cons, List.getElem?_cons_zero, ↓reduceIte, Nat.reduceEqDiff, List.nil_append, List.cons_append, List.append_nil, Nat.zero_add, zV, resP, tupV, List.reverse_cons, List.reverse_nil, wfV, wfL, Bool.and_self, and_self, lg0, jg, ↓jh, ↓jJ, rli, rlb]
/-- What the rounds keep. -/
theorem Run.keep {N : Nat} {arcs : List Arc} (hV : Val N arcs) {f t : Int} (hf : 0 ≤ f ∧ f < N) (ht : 0 ≤ t ∧ t < N) {fl r : List Int} (h : Run arcs N f t fl r) :
    fl.length = arcs.length → possP arcs fl → r.length = arcs.length ∧ possP arcs r ∧ round arcs N f t r = none ∧ ∃ d, 0 ≤ d ∧ ∀ x, valTo arcs x r arcs.length = valTo arcs x fl arcs.length + (if f = x then d else 0) - (if t = x then d else 0) := by
  induction h with
  | stop h => exact fun h1 h2 => ⟨h1, h2, h, 0, Int.le_refl _, fun x => by split <;> split <;> omega⟩
  | go h _ ih =>
    intro h1 h2
    obtain ⟨q1, q2, d, q3, q4⟩ := round_ok hV hf ht h1 h2 h
    obtain ⟨p1, p2, p3, d', p4, p5⟩ := ih q1 q2
    refine ⟨p1, p2, p3, d + d', by omega, fun x => ?_⟩
    rw [p5, q4]
    split <;> split <;> omega
theorem zero_val (arcs : List Arc) (x : Int) (n : Nat) : ∀ k, valTo arcs x (List.replicate n 0) k = 0
  | 0 => rfl
  | k + 1 => by
    have : (List.replicate n (0 : Int)).getD k 0 = 0 := by
      rw [List.getD_eq_getElem?_getD, List.getElem?_replicate]
      split <;> rfl
    simp only [valTo, zero_val arcs x n k, this]
    split <;> split <;> rfl
theorem zero_poss {N : Nat} {arcs : List Arc} (hV : Val N arcs) : possP arcs (List.replicate arcs.length 0) := fun i h1 h2 => by
  have := (hV.ha arcs[i] (List.getElem_mem h2)).2
  simp; omega
/-- The greatest flow that the rounds end with. -/
structure Grt (N : Nat) (arcs : List Arc) (f t : Int) (r : List Int) : Prop where
  run : Run arcs N f t (List.replicate arcs.length 0) r
  len : r.length = arcs.length
  pos : possP arcs r
  stop : round arcs N f t r = none
  val : ∃ d, 0 ≤ d ∧ ∀ x, valTo arcs x r arcs.length = (if f = x then d else 0) - (if t = x then d else 0)
theorem grt {N : Nat} {arcs : List Arc} (hV : Val N arcs) {f t : Int} (hE : (0 ≤ f ∧ f < N) ∧ (0 ≤ t ∧ t < N) ∧ f ≠ t) : ∃ r, Grt N arcs f t r := by
  obtain ⟨r, hr⟩ := run_ends hV hE.1 hE.2.1 hE.2.2 (((arcs.length : Int) * 1073741824 - valTo arcs f (List.replicate arcs.length 0) arcs.length).toNat) (List.replicate arcs.length 0) (by simp) (zero_poss hV) (by omega)
  obtain ⟨h1, h2, h3, d, h4, h5⟩ := hr.keep hV hE.1 hE.2.1 (by simp) (zero_poss hV)
  exact ⟨r, hr, h1, h2, h3, d, h4, fun x => by rw [h5, zero_val]; omega⟩
theorem ok3 (n : Int) (arcs : List Arc) (f t : Int) : Ok 3 [rnet n arcs, .i f, .i t] (Is (.b true)) := by
  refine ok_of lw3 (by simp) ?_
  unfold c3
  simp -implicitDefEqProofs only [qF, qI, qO, qP, qR, qT, qV, zB, zF, zI, zJ, zM, ofConst, cells?, List.length_nil, List.length_cons, List.set_cons_zero, zN, List.getD_eq_getElem?_getD, List.getElem?_cons_zero, ↓reduceIte, Nat.reduceEqDiff, Option.getD_some, List.nil_append, List.append_nil, Nat.zero_add, Nat.reduceAdd, Nat.add_zero, freshP, List.map_cons, List.map_nil, List.drop_zero, List.take_nil, true_and, Nat.le_refl, zZ, ka, kf, jg, ↓jh, ↓jj, ↓jl, ↓jp, args0, rnet]
  refine call_is (ok9 n arcs 12 40) ?_ rfl ?_
  · simp [net, lendsOk, lendOk, lends, lend, wkL, wk, wkB, pos]
  cases hF : (decide (n ≤ 12 ∧ (arcs.length : Int) ≤ 40) && validB n arcs) with
  | false =>
    simp -implicitDefEqProofs only [qF, qI, qJ, qO, qP, zc, zB, zF, zI, zM, List.length_nil, List.length_cons, ↓reduceIte, zP, zQ, Bool.not_false, ↓zR, List.append_nil, Nat.zero_add, List.map_nil, jg]
    refine call_is sanOk ?_ rfl ?_
    · simp [lendsOk, lendOk, lends, lend, wkL, wk, wkB, pos]
    simp -implicitDefEqProofs only [qN, qO, qP, qR, zF, zI, zM, ↓reduceIte, List.nil_append, zV, resP, tupV, List.reverse_cons, List.reverse_nil, wfV, Bool.and_self, and_self]
  | true =>
    simp only [Bool.and_eq_true, decide_eq_true_eq] at hF
    obtain ⟨N, rfl, hV⟩ := valOf hF.2
    simp -implicitDefEqProofs only [qE, qF, qI, qJ, qO, qP, qR, qV, zc, zB, zF, zI, zM, List.length_nil, List.length_cons, zN, List.getD_eq_getElem?_getD, List.getElem?_cons_zero, ↓reduceIte, Nat.reduceEqDiff, Option.getD_some, zP, zQ, Bool.not_true, ↓zS, List.append_nil, Nat.zero_add, Nat.reduceAdd, reduceCtorEq, List.map_cons, List.map_nil, List.drop_zero, List.take_nil, true_and, Nat.le_refl, zZ, kf, jg, ↓jj, ↓jl, ↓jp]
    cases he : endsB N f t with
    | false =>
      refine call_is (ok11e N arcs f t he) ?_ rfl ?_
      · simp [net, lendsOk, lendOk, lends, lend, wkL, wk, wkB, pos]
      simp -implicitDefEqProofs only [qF, qI, qO, qP, qR, qV, zB, zC, zF, zI, zM, List.length_nil, List.length_cons, zN, List.getD_eq_getElem?_getD, List.getElem?_cons_zero, ↓reduceIte, Nat.reduceEqDiff, Option.getD_some, List.nil_append, List.cons_append, Nat.zero_add, Nat.reduceAdd, reduceCtorEq, List.map_cons, List.map_nil, List.drop_zero, List.take_nil, true_and, Nat.le_refl, lg0, zZ, ka, lg1, kf, jg, ↓jh, ↓jj, ↓jl, ↓jp, ↓jJ]
      refine call_is (ok12e N arcs f t he) ?_ rfl ?_
      · simp [net, lendsOk, lendOk, lends, lend, wkL, wk, wkB, pos]
      simp -implicitDefEqProofs only [qF, qI, qO, qP, qU, qW, zB, zF, zG, zI, zM, ofConst, cells?, List.length_nil, List.length_cons, List.set_cons_zero, splice, zN, List.getD_eq_getElem?_getD, List.getElem?_cons_zero, ↓reduceIte, Nat.reduceEqDiff, Option.getD_some, List.nil_append, List.cons_append, List.append_nil, Nat.zero_add, Nat.reduceAdd, Nat.add_zero, freshP, List.map_cons, List.map_nil, List.take_zero, List.drop_nil, List.all_cons, List.all_nil, isC, Bool.and_true, Bool.and_self, true_and, and_true, and_self, List.not_mem_nil, not_false_eq_true, Nat.le_refl, lg0, zX, zY, ke, ki, jg, ↓jh, ↓jq, ↓jr, cx0_bn, rli, rlb]
      refine call_is sanOk ?_ rfl ?_
      · simp [lendsOk, lendOk, lends, lend, wkL, wk, wkB, pos]
      simp -implicitDefEqProofs only [qP, qQ, qR, qS, qV, qX, qZ, zB, zF, zI, zM, zN, List.getD_eq_getElem?_getD, List.getElem?_cons_zero, ↓reduceIte, Nat.reduceEqDiff, Option.getD_some, zO, zQ, ↓zR, zT, Nat.zero_add, Nat.add_zero, List.map_cons, List.map_nil, true_and, lg0, lg1, ↓jh, ↓jj, ↓jl, ↓jo, ↓jv, ↓qaH, beq_self_eq_true]
      refine call_is (ok13 [] []) ?_ rfl ?_
      · simp [li, lendsOk, lendOk, lends, lend, wkL, wk, wkB, pos]
      simp -implicitDefEqProofs only [qP, qQ, qR, qS, qV, qX, zB, zF, zI, zM, zN, List.getD_eq_getElem?_getD, List.getElem?_cons_zero, ↓reduceIte, Nat.reduceEqDiff, Option.getD_some, zQ, ↓zR, zT, Nat.zero_add, List.map_cons, List.map_nil, lg0, ↓jh, ↓jj, ↓jl, ↓jo, ↓jv, decide_true]
      refine call_is (ok14 [] []) ?_ rfl ?_
      · simp [lb, lendsOk, lendOk, lends, lend, wkL, wk, wkB, pos]
      simp -implicitDefEqProofs only [qN, qO, qP, qR, qS, zF, zI, zM, ↓reduceIte, Nat.reduceEqDiff, zQ, ↓zR, List.nil_append, zV, resP, tupV, List.reverse_cons, List.reverse_nil, wfV, Bool.and_self, and_self, decide_true]
    | true =>
      have hE : (0 ≤ f ∧ f < N) ∧ (0 ≤ t ∧ t < N) ∧ f ≠ t := by simpa [endsB] using he
      obtain ⟨r, hr⟩ := grt hV hE
      refine call_is (ok11d N arcs f t r hV he hr.run hr.len) ?_ rfl ?_
      · simp [net, lendsOk, lendOk, lends, lend, wkL, wk, wkB, pos]
      simp -implicitDefEqProofs only [qF, qI, qO, qP, qR, qV, zB, zC, zF, zI, zM, List.length_nil, List.length_cons, zN, List.getD_eq_getElem?_getD, List.getElem?_cons_zero, ↓reduceIte, Nat.reduceEqDiff, Option.getD_some, List.nil_append, List.cons_append, Nat.zero_add, Nat.reduceAdd, reduceCtorEq, List.map_cons, List.map_nil, List.drop_zero, List.take_nil, true_and, Nat.le_refl, lg0, zZ, ka, lg1, kf, jg, ↓jh, ↓jj, ↓jl, ↓jp, ↓jJ]
      refine call_is (ok12d N arcs f t r hV he hr.run hr.len) ?_ rfl ?_
      · simp [net, lendsOk, lendOk, lends, lend, wkL, wk, wkB, pos]
      simp -implicitDefEqProofs only [qF, qI, qO, qP, qU, qW, zB, zF, zG, zI, zM, ofConst, cells?, List.length_nil, List.length_cons, List.set_cons_zero, splice, zN, List.getD_eq_getElem?_getD, List.getElem?_cons_zero, ↓reduceIte, Nat.reduceEqDiff, Option.getD_some, List.nil_append, List.cons_append, List.append_nil, Nat.zero_add, Nat.reduceAdd, Nat.add_zero, freshP, List.map_cons, List.map_nil, List.take_zero, List.drop_nil, List.all_cons, List.all_nil, isC, Bool.and_true, Bool.and_self, true_and, and_true, and_self, List.not_mem_nil, not_false_eq_true, Nat.le_refl, lg0, zX, zY, ke, ki, jg, ↓jh, ↓jq, ↓jr, cx0_bn, rli, rlb]
      refine call_is sanOk ?_ rfl ?_
      · simp [lendsOk, lendOk, lends, lend, wkL, wk, wkB, pos]
      simp -implicitDefEqProofs only [qP, qQ, qR, qS, qV, qX, qZ, zB, zF, zI, zM, zN, List.getD_eq_getElem?_getD, List.getElem?_cons_zero, ↓reduceIte, Nat.reduceEqDiff, Option.getD_some, zO, zQ, ↓zR, zT, Nat.zero_add, Nat.add_zero, List.map_cons, List.map_nil, true_and, lg0, lg1, ↓jh, ↓jj, ↓jl, ↓jo, ↓jv, ↓qaH, beq_self_eq_true]
      refine call_is (ok13 r r) ?_ rfl ?_
      · simp [li, lendsOk, lendOk, lends, lend, wkL, wk, wkB, pos]
      simp -implicitDefEqProofs only [qP, qQ, qR, qS, qV, qX, zB, zF, zI, zM, zN, List.getD_eq_getElem?_getD, List.getElem?_cons_zero, ↓reduceIte, Nat.reduceEqDiff, Option.getD_some, zQ, ↓zR, zT, Nat.zero_add, List.map_cons, List.map_nil, lg0, ↓jh, ↓jj, ↓jl, ↓jo, ↓jv, decide_true]
      refine call_is (ok14 (cutOf arcs N f r) (cutOf arcs N f r)) ?_ rfl ?_
      · simp [lb, lendsOk, lendOk, lends, lend, wkL, wk, wkB, pos]
      simp -implicitDefEqProofs only [qN, qO, qP, qR, qS, zF, zI, zM, ↓reduceIte, Nat.reduceEqDiff, zQ, ↓zR, List.nil_append, zV, resP, tupV, List.reverse_cons, List.reverse_nil, wfV, Bool.and_self, and_self, decide_true]
theorem fn3 : ∀ xs, WfA [.st [.int .i64, .sl 4 (.st [.int .i64, .int .i64, .int .i64, .int .i64])], .int .i64, .int .i64] xs → Fn Try.prog 3 xs [] [] (fun r _ => r = .b true) := by
  intro xs h
  obtain ⟨x1, _, rfl, h1, h⟩ := h
  obtain ⟨x2, _, rfl, h2, h⟩ := h
  obtain ⟨x3, _, rfl, h3, h⟩ := h
  obtain rfl : _ = [] := h
  obtain ⟨n, arcs, rfl⟩ := wf_net h1
  obtain ⟨f, rfl⟩ := wf_int h2
  obtain ⟨t, rfl⟩ := wf_int h3
  exact Fn_post (ok3 n arcs f t).2 fun r h' h => h.1
end Go.Fx.F
namespace Go.Fx.F
open Go Go.Fx Go.Proofs
/-! The greatest flow and the least cut. -/
def arcIn (arcs : List Arc) (cut : List Bool) (fl : List Int) (k : Nat) : Int :=
  (if cut.getD (gA arcs k).from_.toNat false = true then fl.getD k 0 else 0) - (if cut.getD (gA arcs k).to.toNat false = true then fl.getD k 0 else 0)
def sumC (arcs : List Arc) (cut : List Bool) (fl : List Int) : Nat → Int
  | 0 => 0
  | k + 1 => sumC arcs cut fl k + arcIn arcs cut fl k
def sumN (arcs : List Arc) (cut : List Bool) (fl : List Int) (k : Nat) : Nat → Int
  | 0 => 0
  | v + 1 => sumN arcs cut fl k v + (if cut.getD v false = true then valTo arcs v fl k else 0)
theorem sumN_zero (arcs : List Arc) (cut : List Bool) (fl : List Int) : ∀ n, sumN arcs cut fl 0 n = 0
  | 0 => rfl
  | n + 1 => by simp [sumN, sumN_zero arcs cut fl n, valTo]
theorem sumN_step (arcs : List Arc) (cut : List Bool) (fl : List Int) (k : Nat) (h1 : 0 ≤ (gA arcs k).from_) (h2 : 0 ≤ (gA arcs k).to) : ∀ n, sumN arcs cut fl (k + 1) n = sumN arcs cut fl k n
    + (if (gA arcs k).from_ < n then (if cut.getD (gA arcs k).from_.toNat false = true then fl.getD k 0 else 0) else 0) - (if (gA arcs k).to < n then (if cut.getD (gA arcs k).to.toNat false = true then fl.getD k 0 else 0) else 0)
  | 0 => by
    simp only [sumN]
    rw [if_neg (by omega), if_neg (by omega)]; omega
  | n + 1 => by
    have ih := sumN_step arcs cut fl k h1 h2 n
    have hv : valTo arcs n fl (k + 1) = valTo arcs n fl k + (if (gA arcs k).from_ = n then fl.getD k 0 else 0) - (if (gA arcs k).to = n then fl.getD k 0 else 0) := rfl
    simp only [sumN, ih, hv]
    by_cases e1 : (gA arcs k).from_ = n
    · have t1 : (gA arcs k).from_.toNat = n := by omega
      rw [t1, if_neg (by omega), if_pos (show (gA arcs k).from_ < ((n + 1 : Nat) : Int) by omega), if_pos e1]
      by_cases e2 : (gA arcs k).to = n
      · have t2 : (gA arcs k).to.toNat = n := by omega
        rw [t2, if_neg (by omega), if_pos (show (gA arcs k).to < ((n + 1 : Nat) : Int) by omega), if_pos e2]
        split <;> omega
      · rw [if_neg e2]
        by_cases e3 : (gA arcs k).to < n
        · rw [if_pos e3, if_pos (show (gA arcs k).to < ((n + 1 : Nat) : Int) by omega)]
          by_cases e4 : cut.getD n false = true
          · rw [if_pos e4, if_pos e4, if_pos e4]; omega
          · rw [if_neg e4, if_neg e4, if_neg e4]; omega
        · rw [if_neg e3, if_neg (show ¬ (gA arcs k).to < ((n + 1 : Nat) : Int) by omega)]
          by_cases e4 : cut.getD n false = true
          · rw [if_pos e4, if_pos e4, if_pos e4]; omega
          · rw [if_neg e4, if_neg e4, if_neg e4]; omega
    · rw [if_neg e1]
      have c1 : (if (gA arcs k).from_ < ((n + 1 : Nat) : Int) then (if cut.getD (gA arcs k).from_.toNat false = true then fl.getD k 0 else 0) else 0) = (if (gA arcs k).from_ < (n : Int) then (if cut.getD (gA arcs k).from_.toNat false = true then fl.getD k 0 else 0) else 0) := by
        by_cases e3 : (gA arcs k).from_ < n
        · rw [if_pos e3, if_pos (by omega)]
        · rw [if_neg e3, if_neg (by omega)]
      rw [c1]
      by_cases e2 : (gA arcs k).to = n
      · have t2 : (gA arcs k).to.toNat = n := by omega
        rw [t2, if_neg (show ¬ (gA arcs k).to < (n : Int) by omega), if_pos (show (gA arcs k).to < ((n + 1 : Nat) : Int) by omega), if_pos e2]
        by_cases e4 : cut.getD n false = true
        · rw [if_pos e4, if_pos e4, if_pos e4]; omega
        · rw [if_neg e4, if_neg e4, if_neg e4]; omega
      · rw [if_neg e2]
        have c2 : (if (gA arcs k).to < ((n + 1 : Nat) : Int) then (if cut.getD (gA arcs k).to.toNat false = true then fl.getD k 0 else 0) else 0) = (if (gA arcs k).to < (n : Int) then (if cut.getD (gA arcs k).to.toNat false = true then fl.getD k 0 else 0) else 0) := by
          by_cases e3 : (gA arcs k).to < n
          · rw [if_pos e3, if_pos (by omega)]
          · rw [if_neg e3, if_neg (by omega)]
        rw [c2]
        by_cases e4 : cut.getD n false = true
        · rw [if_pos e4, if_pos e4]; omega
        · rw [if_neg e4, if_neg e4]; omega
theorem val_in {N : Nat} {arcs : List Arc} (hV : Val N arcs) {k : Nat} (hk : k < arcs.length) : (0 ≤ (gA arcs k).from_ ∧ (gA arcs k).from_ < N) ∧ (0 ≤ (gA arcs k).to ∧ (gA arcs k).to < N) := by
  rw [getD_nil (a := ⟨0,0,0,0⟩) hk]
  have := hV.ha arcs[k] (List.getElem_mem hk)
  exact ⟨this.1.1, this.1.2.1⟩
theorem sumN_all {N : Nat} {arcs : List Arc} (hV : Val N arcs) (cut : List Bool) (fl : List Int) : ∀ k, k ≤ arcs.length → sumN arcs cut fl k N = sumC arcs cut fl k
  | 0, _ => sumN_zero arcs cut fl N
  | k + 1, hk => by
    have := val_in hV (show k < arcs.length by omega)
    rw [sumN_step arcs cut fl k this.1.1 this.2.1, sumN_all hV cut fl k (by omega), if_pos this.1.2, if_pos this.2.2]
    simp only [sumC, arcIn]; omega
/-- What a set of nodes with the one end, and not the other, gives. -/
theorem sumN_flow (arcs : List Arc) (cut : List Bool) (fl : List Int) (k : Nat) {f t : Int} (hf : 0 ≤ f) (hcf : cut.getD f.toNat false = true) (hct : cut.getD t.toNat false = false) (N : Nat)
    (h0 : ∀ j : Int, 0 ≤ j → j < N → j ≠ f → j ≠ t → valTo arcs j fl k = 0) : ∀ n, n ≤ N → sumN arcs cut fl k n = if f < n then valTo arcs f fl k else 0
  | 0, _ => by rw [if_neg (by omega)]; rfl
  | n + 1, hn => by
    have ih := sumN_flow arcs cut fl k hf hcf hct N h0 n (by omega)
    simp only [sumN, ih]
    by_cases e1 : (n : Int) = f
    · have t1 : f.toNat = n := by omega
      rw [t1] at hcf
      rw [if_neg (by omega), if_pos hcf, if_pos (by omega), e1]; omega
    · have c1 : (if f < ((n + 1 : Nat) : Int) then valTo arcs f fl k else 0) = (if f < (n : Int) then valTo arcs f fl k else 0) := by
        by_cases e3 : f < n
        · rw [if_pos e3, if_pos (by omega)]
        · rw [if_neg e3, if_neg (by omega)]
      rw [c1]
      by_cases e2 : (n : Int) = t
      · have t1 : t.toNat = n := by omega
        rw [t1] at hct
        rw [if_neg (show ¬ cut.getD n false = true by rw [hct]; simp)]; omega
      · rw [h0 n (by omega) (by omega) e1 e2]
        split <;> omega
theorem sumC_le {arcs : List Arc} (cut : List Bool) {fl : List Int} (hp : ∀ q, q < arcs.length → 0 ≤ fl.getD q 0 ∧ fl.getD q 0 ≤ (gA arcs q).cap) : ∀ k, k ≤ arcs.length → sumC arcs cut fl k ≤ cutTo arcs cut k
  | 0, _ => Int.le_refl _
  | k + 1, hk => by
    have ih := sumC_le cut hp k (by omega)
    have := hp k (by omega)
    have hc : cutTo arcs cut (k + 1) = cutTo arcs cut k + (if cut.getD (gA arcs k).from_.toNat false = true ∧ cut.getD (gA arcs k).to.toNat false = false then (gA arcs k).cap else 0) := rfl
    rw [hc]
    simp only [sumC, arcIn]
    clear hc
    generalize cut.getD (gA arcs k).from_.toNat false = a
    generalize cut.getD (gA arcs k).to.toNat false = b
    generalize fl.getD k 0 = x at *
    cases a <;> cases b <;> simp <;> omega
theorem sumC_eq {arcs : List Arc} (cut : List Bool) {fl : List Int} (h1 : ∀ q, q < arcs.length → cut.getD (gA arcs q).from_.toNat false = true → cut.getD (gA arcs q).to.toNat false = false → fl.getD q 0 = (gA arcs q).cap)
    (h2 : ∀ q, q < arcs.length → cut.getD (gA arcs q).from_.toNat false = false → cut.getD (gA arcs q).to.toNat false = true → fl.getD q 0 = 0) : ∀ k, k ≤ arcs.length → sumC arcs cut fl k = cutTo arcs cut k
  | 0, _ => rfl
  | k + 1, hk => by
    have ih := sumC_eq cut h1 h2 k (by omega)
    have g1 := h1 k (by omega)
    have g2 := h2 k (by omega)
    have hc : cutTo arcs cut (k + 1) = cutTo arcs cut k + (if cut.getD (gA arcs k).from_.toNat false = true ∧ cut.getD (gA arcs k).to.toNat false = false then (gA arcs k).cap else 0) := rfl
    rw [hc]
    simp only [sumC, arcIn, ih]
    clear hc
    generalize cut.getD (gA arcs k).from_.toNat false = a at *
    generalize cut.getD (gA arcs k).to.toNat false = b at *
    generalize fl.getD k 0 = x at *
    cases a <;> cases b <;> simp at * <;> omega
/-- No flow has more than a cut. -/
theorem weak {N : Nat} {arcs : List Arc} (hV : Val N arcs) {f t : Int} (hf : 0 ≤ f ∧ f < N) {cut : List Bool} {fl : List Int} (hl : fl.length = arcs.length) (hp : possP arcs fl) (hcf : cut.getD f.toNat false = true) (hct : cut.getD t.toNat false = false)
    (h0 : ∀ j : Int, 0 ≤ j → j < N → j ≠ f → j ≠ t → valTo arcs j fl arcs.length = 0) : valTo arcs f fl arcs.length ≤ cutTo arcs cut arcs.length := by
  have e1 := sumN_flow arcs cut fl arcs.length hf.1 hcf hct N h0 N (Nat.le_refl _)
  rw [if_pos hf.2, sumN_all hV cut fl _ (Nat.le_refl _)] at e1
  rw [← e1]
  exact sumC_le cut ((poss_iff hl).1 hp) _ (Nat.le_refl _)
theorem scan_closed {R : List Arc} {N : Nat} {f k : Int} {s : List Int × List Int} (hf : 0 ≤ f ∧ f < N) (hR : ∀ i, i < R.length → (0 ≤ (gA R i).to ∧ (gA R i).to < N)) (h : Srch R N f s) (hk : k ∈ s.2) :
    ∀ i, i ≤ R.length → ∀ q, q < i → (gA R q).from_ = k → 0 < (gA R q).cap → (gA R q).to ∈ (scanTo R k s i).2
  | 0, _, q, hq, _, _ => by omega
  | i + 1, hi, q, hq, hfr, hc => by
    obtain ⟨h1, h2, h3⟩ := Srch.scan hf hR h hk i (by omega)
    have hto := hR q (by omega)
    unfold scanTo
    by_cases e : q = i
    · subst e
      split
      · exact List.mem_append_right _ (by simp)
      · rename_i hn
        have : (scanTo R k s q).1.getD (gA R q).to.toNat 0 ≠ -2 := fun h => hn ⟨hfr, hc, h⟩
        have := (h1.mem (gA R q).to.toNat (by omega)).1 this
        rwa [Int.toNat_of_nonneg hto.1] at this
    · have ih := scan_closed hf hR h hk i (by omega) q (by omega) hfr hc
      split
      · exact List.mem_append_left _ ih
      · exact ih
theorem bfs_pre {R : List Arc} {N : Nat} {f : Int} (hf : 0 ≤ f ∧ f < N) (hR : ∀ i, i < R.length → (0 ≤ (gA R i).to ∧ (gA R i).to < N)) {h : Nat} : ∀ j, h ≤ j → (bfsTo R N f h).2 <+: (bfsTo R N f j).2
  | 0, hj => by rw [show h = 0 by omega]; exact List.prefix_refl _
  | j + 1, hj => by
    by_cases e : h = j + 1
    · rw [e]; exact List.prefix_refl _
    · refine (bfs_pre hf hR j (by omega)).trans ?_
      conv => rhs; unfold bfsTo
      split
      · rename_i k hk
        exact (Srch.scan hf hR (Srch.bfs hf hR j) (List.mem_of_getElem? hk) R.length (Nat.le_refl _)).2.2
      · exact List.prefix_refl _
/-- What can be reached from what was found was found. -/
theorem srch_closed {R : List Arc} {N : Nat} {f : Int} (hf : 0 ≤ f ∧ f < N) (hR : ∀ i, i < R.length → (0 ≤ (gA R i).to ∧ (gA R i).to < N)) {q : Nat} (hq : q < R.length) (hm : (gA R q).from_ ∈ (srch R N f).2) (hc : 0 < (gA R q).cap) : (gA R q).to ∈ (srch R N f).2 := by
  have hS : Srch R N f (srch R N f) := Srch.bfs hf hR N
  have hN := nodup_le N hS.nod hS.rng
  obtain ⟨h, hh, he⟩ := List.getElem_of_mem hm
  have hlt : h < (bfsTo R N f h).2.length := by
    apply Classical.byContradiction
    intro hn
    have := bfs_stay (R := R) (N := N) (f := f) (h := h) (by omega) N (by omega)
    unfold srch at hh
    rw [this] at hh
    omega
  have hpre := bfs_pre hf hR (h := h) N (by omega)
  have hk : (bfsTo R N f h).2[h] = (gA R q).from_ := by
    rw [← he]
    exact List.IsPrefix.getElem hpre hlt
  have hmem : (gA R q).from_ ∈ (bfsTo R N f h).2 := by rw [← hk]; exact List.getElem_mem hlt
  have h2 := scan_closed hf hR (Srch.bfs hf hR h) hmem R.length (Nat.le_refl _) q hq rfl hc
  have h3 : bfsTo R N f (h + 1) = scanTo R (gA R q).from_ (bfsTo R N f h) R.length := by
    conv => lhs; unfold bfsTo
    rw [List.getElem?_eq_getElem hlt, hk]
  rw [← h3] at h2
  exact (bfs_pre hf hR (h := h + 1) N (by omega)).subset h2
theorem cutOf_in {N : Nat} {arcs : List Arc} (hV : Val N arcs) {f : Int} (hf : 0 ≤ f ∧ f < N) {fl : List Int} {v : Int} (hv : 0 ≤ v ∧ v < N) : (cutOf arcs N f fl).getD v.toNat false = true ↔ v ∈ (srch (restA arcs fl arcs.length) N f).2 := by
  have hS : Srch (restA arcs fl arcs.length) N f (srch (restA arcs fl arcs.length) N f) := Srch.bfs hf (rest_to hV fl) N
  have := hS.mem v.toNat (by omega)
  rw [Int.toNat_of_nonneg hv.1] at this
  rw [← this]
  unfold cutOf cutK
  rw [List.getD_eq_getElem?_getD, List.getElem?_map, List.getElem?_range (by omega)]
  simp
  omega
/-- The cut of the search that ends the rounds. -/
theorem strong {N : Nat} {arcs : List Arc} (hV : Val N arcs) {f t : Int} (hE : (0 ≤ f ∧ f < N) ∧ (0 ≤ t ∧ t < N) ∧ f ≠ t) {r : List Int} (hr : Grt N arcs f t r) :
    (cutOf arcs N f r).getD f.toNat false = true ∧ (cutOf arcs N f r).getD t.toNat false = false ∧ cutTo arcs (cutOf arcs N f r) arcs.length = valTo arcs f r arcs.length := by
  have hS : Srch (restA arcs r arcs.length) N f (srch (restA arcs r arcs.length) N f) := Srch.bfs hE.1 (rest_to hV r) N
  have c1 : (cutOf arcs N f r).getD f.toNat false = true := (cutOf_in hV hE.1 hE.1).2 (List.mem_of_getElem? hS.root.1)
  have c2 : (cutOf arcs N f r).getD t.toNat false = false := by
    rw [← Bool.not_eq_true]
    intro h
    have hm := (cutOf_in hV hE.1 hE.2.1).1 h
    have := (hS.mem t.toNat (by omega)).2 (by rw [Int.toNat_of_nonneg hE.2.1.1]; exact hm)
    have hs := hr.stop
    unfold round at hs
    rw [if_neg this] at hs
    simp at hs
  refine ⟨c1, c2, ?_⟩
  obtain ⟨d, hd, hv⟩ := hr.val
  have h0 : ∀ j : Int, 0 ≤ j → j < N → j ≠ f → j ≠ t → valTo arcs j r arcs.length = 0 := by
    intro j _ _ h1 h2
    rw [hv, if_neg (fun h => h1 h.symm), if_neg (fun h => h2 h.symm)]; rfl
  have e1 := sumN_flow arcs (cutOf arcs N f r) r arcs.length hE.1.1 c1 c2 N h0 N (Nat.le_refl _)
  rw [if_pos hE.1.2, sumN_all hV _ r _ (Nat.le_refl _)] at e1
  rw [← e1]
  have hpo := (poss_iff hr.len).1 hr.pos
  refine (sumC_eq _ (fun q hq h1 h2 => ?_) (fun q hq h1 h2 => ?_) _ (Nat.le_refl _)).symm
  · have hvi := val_in hV hq
    have hm := (cutOf_in hV hE.1 hvi.1).1 h1
    apply Classical.byContradiction
    intro hne
    have hcap := hpo q hq
    have hev := restA_even arcs r arcs.length q hq
    have := srch_closed hE.1 (rest_to hV r) (q := 2 * q) (by rw [restA_len]; omega) (by rw [hev]; exact hm) (by rw [hev]; simp only; omega)
    rw [hev] at this
    have := (cutOf_in hV hE.1 hvi.2).2 this
    rw [this] at h2
    simp at h2
  · have hvi := val_in hV hq
    have hm := (cutOf_in hV hE.1 hvi.2).1 h2
    apply Classical.byContradiction
    intro hne
    have hcap := hpo q hq
    have hod := restA_odd arcs r arcs.length q hq
    have := srch_closed hE.1 (rest_to hV r) (q := 2 * q + 1) (by rw [restA_len]; omega) (by rw [hod]; exact hm) (by rw [hod]; simp only; omega)
    rw [hod] at this
    have := (cutOf_in hV hE.1 hvi.1).2 this
    rw [this] at h1
    simp at h1
end Go.Fx.F
namespace Go.Fx.F
open Go Go.Fx Go.Proofs
set_option maxRecDepth 20000
theorem grt_check {N : Nat} {arcs : List Arc} {f t : Int} (he : endsB N f t = true) {r : List Int} (hr : Grt N arcs f t r) : checkI N arcs f t r = 0 := by
  have hE : (0 ≤ f ∧ f < N) ∧ (0 ≤ t ∧ t < N) ∧ f ≠ t := by simpa [endsB] using he
  obtain ⟨d, hd, hv⟩ := hr.val
  unfold checkI
  rw [if_neg (by simp [he, hr.len]), if_neg (by simp [hr.pos]), if_pos]
  refine ⟨fun j _ _ h1 h2 => ?_, ?_⟩
  · rw [hv, if_neg (fun h => h1 h.symm), if_neg (fun h => h2 h.symm)]; rfl
  · rw [hv, if_pos rfl, if_neg (fun h => hE.2.2 h.symm)]; omega
theorem check_flow {N : Nat} {arcs : List Arc} {f t : Int} {fl : List Int} (h : checkI N arcs f t fl = 0) : ∀ j : Int, 0 ≤ j → j < N → j ≠ f → j ≠ t → valTo arcs j fl arcs.length = 0 := by
  unfold checkI at h
  split at h
  · simp at h
  · split at h
    · simp at h
    · split at h
      · rename_i h3; exact h3.1
      · simp at h
theorem grt_proves {N : Nat} {arcs : List Arc} (hV : Val N arcs) {f t : Int} (he : endsB N f t = true) {r : List Int} (hr : Grt N arcs f t r) : provesB N arcs f t r (cutOf arcs N f r) = true := by
  have hE : (0 ≤ f ∧ f < N) ∧ (0 ≤ t ∧ t < N) ∧ f ≠ t := by simpa [endsB] using he
  obtain ⟨s1, s2, s3⟩ := strong hV hE hr
  unfold provesB
  exact decide_eq_true ⟨grt_check he hr, cutOf_len, s1, s2, s3⟩
theorem ok4 (n : Int) (arcs : List Arc) (f t : Int) (other : List Int) (cut : List Bool) : Ok 4 [rnet n arcs, .i f, .i t, rli other, rlb cut] (Is (.b true)) := by
  refine ok_of lw4 (by simp) ?_
  unfold c4
  simp -implicitDefEqProofs only [qF, qI, qO, qP, qR, qT, qV, zB, zF, zI, zJ, zM, ofConst, cells?, List.length_nil, List.length_cons, List.set_cons_zero, zN, List.getD_eq_getElem?_getD, List.getElem?_cons_zero, ↓reduceIte, Nat.reduceEqDiff, Option.getD_some, List.nil_append, List.append_nil, Nat.zero_add, Nat.reduceAdd, Nat.add_zero, freshP, List.map_cons, List.map_nil, List.drop_zero, List.take_nil, true_and, Nat.le_refl, zZ, ka, kf, jg, ↓jh, ↓jj, ↓jl, ↓jp, args0, rnet, rli, rlb]
  refine call_is (ok9 n arcs 30 100) ?_ rfl ?_
  · simp [net, lendsOk, lendOk, lends, lend, wkL, wk, wkB, pos]
  cases hF : (decide (n ≤ 30 ∧ (arcs.length : Int) ≤ 100) && validB n arcs) with
  | false =>
    simp -implicitDefEqProofs only [qF, qI, qJ, qO, qP, zc, zB, zF, zI, zM, List.length_nil, List.length_cons, ↓reduceIte, zP, zQ, Bool.not_false, ↓zR, List.append_nil, Nat.zero_add, List.map_nil, jg]
    refine call_is sanOk ?_ rfl ?_
    · simp [lendsOk, lendOk, lends, lend, wkL, wk, wkB, pos]
    simp -implicitDefEqProofs only [qN, qO, qP, qR, zF, zI, zM, ↓reduceIte, List.nil_append, zV, resP, tupV, List.reverse_cons, List.reverse_nil, wfV, Bool.and_self, and_self]
  | true =>
    simp only [Bool.and_eq_true, decide_eq_true_eq] at hF
    obtain ⟨N, rfl, hV⟩ := valOf hF.2
    have hN := hV.hn
    have hL := hV.hl
    have h01 : ((1 : Int) != 0) = true := rfl
    have h00 : ((0 : Int) != 0) = false := rfl
    simp -implicitDefEqProofs only [qE, qF, qI, qJ, qO, qP, qR, qV, zc, zB, zF, zI, zM, List.length_nil, List.length_cons, zN, List.getD_eq_getElem?_getD, List.getElem?_cons_zero, ↓reduceIte, Nat.reduceEqDiff, Option.getD_some, zP, zQ, Bool.not_true, ↓zS, List.append_nil, Nat.zero_add, Nat.reduceAdd, reduceCtorEq, List.map_cons, List.map_nil, List.drop_zero, List.take_nil, true_and, Nat.le_refl, zZ, kf, jg, ↓jj, ↓jl, ↓jp]
    cases he : endsB N f t with
    | false =>
      refine call_is (ok11e N arcs f t he) ?_ rfl ?_
      · simp [net, lendsOk, lendOk, lends, lend, wkL, wk, wkB, pos]
      simp -implicitDefEqProofs only [qE, qF, qI, qJ, qO, qP, qR, qV, qZ, zB, zC, zF, zI, zJ, zM, ofConst, List.length_nil, List.length_cons, zN, List.getD_eq_getElem?_getD, List.getElem?_cons_zero, ↓reduceIte, Nat.reduceEqDiff, Option.getD_some, zO, zQ, ↓zR, List.append_nil, Nat.zero_add, Nat.reduceAdd, reduceCtorEq, List.map_cons, List.map_nil, List.drop_zero, List.take_nil, true_and, Nat.le_refl, lg0, zZ, lg1, kf, jg, ↓jh, ↓jj, ↓jl, ↓jp, ↓jJ, ↓qaI, h01]
      refine call_is sanOk ?_ rfl ?_
      · simp [lendsOk, lendOk, lends, lend, wkL, wk, wkB, pos]
      simp -implicitDefEqProofs only [qN, qO, qP, qQ, qR, qS, qV, qX, qZ, zF, zI, zJ, zM, ofConst, zN, List.getD_eq_getElem?_getD, List.getElem?_cons_zero, ↓reduceIte, Nat.reduceEqDiff, Option.getD_some, zO, zQ, Bool.not_false, ↓zR, ↓zS, zT, List.nil_append, Nat.add_zero, reduceCtorEq, zV, resP, tupV, List.reverse_cons, List.reverse_nil, wfV, Bool.and_self, true_and, and_self, V.v.injEq, Value.int.injEq, Value.bool.injEq, Bool.false_eq_true, ↓jh, ↓jj, ↓jl, ↓jo, ↓jv, ↓qaH, ↓qaJ, ↓qaM]
      simp only [endsB, decide_eq_false_iff_not] at he
      simp only [br, decide_eq_true_eq, decide_eq_false_iff_not, beq_iff_eq, beq_eq_false_iff_ne]
      refine ⟨fun _ => trivial, fun h1 => ⟨fun _ => trivial, fun h2 => ⟨fun _ => trivial, fun h3 => ⟨fun _ => trivial, fun h4 => ?_⟩⟩⟩⟩
      apply Classical.byContradiction
      intro h5
      exact he ⟨⟨by omega, by omega⟩, ⟨by omega, by omega⟩, h5⟩
    | true =>
      have hE : (0 ≤ f ∧ f < N) ∧ (0 ≤ t ∧ t < N) ∧ f ≠ t := by simpa [endsB] using he
      obtain ⟨r, hr⟩ := grt hV hE
      obtain ⟨d, hd, hv⟩ := hr.val
      have hvf : valTo arcs f r arcs.length = d := by rw [hv, if_pos rfl, if_neg (fun h => hE.2.2 h.symm)]; omega
      have hvt : valTo arcs t r arcs.length = -d := by rw [hv, if_neg hE.2.2, if_pos rfl]; omega
      have hfr := hV.flow hr.len hr.pos
      have hdb := valTo_bound arcs f r hfr arcs.length
      rw [hvf] at hdb
      have hwr : IntKind.wrap .i64 (-d) = -d := wrap_in .i64 _ (by simp only [lo, hi]; omega)
      have hpr := grt_proves hV he hr
      refine call_is (ok11d N arcs f t r hV he hr.run hr.len) ?_ rfl ?_
      · simp [net, lendsOk, lendOk, lends, lend, wkL, wk, wkB, pos]
      simp -implicitDefEqProofs only [qE, qF, qI, qJ, qO, qP, qR, qV, qZ, zB, zC, zF, zI, zJ, zM, ofConst, List.length_nil, List.length_cons, zN, List.getD_eq_getElem?_getD, List.getElem?_cons_zero, ↓reduceIte, Nat.reduceEqDiff, Option.getD_some, zO, zQ, ↓zS, List.append_nil, Nat.zero_add, Nat.reduceAdd, reduceCtorEq, List.map_cons, List.map_nil, List.drop_zero, List.take_nil, true_and, Nat.le_refl, lg0, zZ, lg1, kf, jg, ↓jh, ↓jj, ↓jl, ↓jp, ↓jJ, ↓qaI, rli, rlb, h00]
      refine call_is (ok15 N f arcs r hr.len (by omega) hN.2 hfr (fun a ha => (hV.ha a ha).1) (by omega)) ?_ rfl ?_
      · simp [net, li, lendsOk, lendOk, lends, lend, wkL, wk, wkB, pos]
      simp -implicitDefEqProofs only [qF, qI, qO, qP, qR, qV, zB, zF, zI, zM, List.length_nil, List.length_cons, zN, List.getD_eq_getElem?_getD, List.getElem?_cons_zero, ↓reduceIte, Nat.reduceEqDiff, Option.getD_some, List.append_nil, Nat.zero_add, Nat.reduceAdd, reduceCtorEq, List.map_cons, List.map_nil, List.drop_zero, List.take_nil, true_and, Nat.le_refl, zZ, kf, jg, ↓jj, ↓jl, ↓jp, hvf]
      refine call_is (ok16 N arcs f t r (cutOf arcs N f r) hV) ?_ rfl ?_
      · simp [net, li, lb, lendsOk, lendOk, lends, lend, wkL, wk, wkB, pos]
      simp -implicitDefEqProofs only [qP, qQ, qR, qV, zc, zB, zF, zI, zM, List.length_nil, List.length_cons, zN, List.getD_eq_getElem?_getD, List.getElem?_cons_zero, ↓reduceIte, Nat.reduceEqDiff, Option.getD_some, zP, Bool.not_true, ↓zS, zT, Nat.zero_add, Nat.reduceAdd, reduceCtorEq, List.map_cons, List.map_nil, List.drop_zero, List.take_nil, true_and, Bool.false_eq_true, Nat.le_refl, zZ, kf, ↓jj, ↓jl, ↓jp, hpr]
      refine call_is (ok15 N t arcs r hr.len (by omega) hN.2 hfr (fun a ha => (hV.ha a ha).1) (by omega)) ?_ rfl ?_
      · simp [net, li, lendsOk, lendOk, lends, lend, wkL, wk, wkB, pos]
      simp -implicitDefEqProofs only [qE, qF, qI, qJ, qO, qP, qQ, qR, qS, qV, qZ, zd, zB, zF, zI, zM, List.length_nil, List.length_cons, zN, List.getD_eq_getElem?_getD, List.getElem?_cons_zero, ↓reduceIte, Nat.reduceEqDiff, Option.getD_some, zO, zQ, ↓zS, zT, List.append_nil, Nat.zero_add, Nat.reduceAdd, reduceCtorEq, List.map_cons, List.map_nil, List.drop_zero, List.take_nil, true_and, Bool.false_eq_true, Nat.le_refl, zZ, kf, jg, ↓jj, ↓jl, ↓jp, ↓qaI, hvt, hwr, bne_self_eq_false]
      refine call_is (ok17 N arcs f t other hV) ?_ rfl ?_
      · simp [net, li, lendsOk, lendOk, lends, lend, wkL, wk, wkB, pos]
      cases hck : decide (checkI N arcs f t other = 0) with
      | true =>
        have hck := of_decide_eq_true hck
        obtain ⟨_, hol, hop⟩ := check0 hck
        have hw := weak hV hE.1 hol hop (strong hV hE hr).1 (strong hV hE hr).2.1 (check_flow hck)
        rw [(strong hV hE hr).2.2, hvf] at hw
        have hwf : decide (d < valTo arcs f other arcs.length) = false := decide_eq_false (by omega)
        simp -implicitDefEqProofs only [qE, qF, qI, qJ, qO, qP, qQ, qR, qS, qV, qZ, zB, zF, zI, zJ, zM, ofConst, List.length_nil, List.length_cons, zN, List.getD_eq_getElem?_getD, List.getElem?_cons_zero, ↓reduceIte, Nat.reduceEqDiff, Option.getD_some, zO, zQ, Bool.not_true, ↓zR, ↓zS, zT, List.append_nil, Nat.zero_add, Nat.reduceAdd, reduceCtorEq, List.map_cons, List.map_nil, List.drop_zero, List.take_nil, true_and, Nat.le_refl, zZ, kf, jg, ↓jj, ↓jl, ↓jp, ↓qaH, hck, beq_self_eq_true]
        refine call_is (ok15 N f arcs other hol (by omega) hN.2 (hV.flow hol hop) (fun a ha => (hV.ha a ha).1) (by omega)) ?_ rfl ?_
        · simp [net, li, lendsOk, lendOk, lends, lend, wkL, wk, wkB, pos]
        simp -implicitDefEqProofs only [qE, qF, qI, qJ, qO, qP, qQ, qR, qS, qZ, zB, zF, zI, zM, List.length_nil, List.length_cons, ↓reduceIte, Nat.reduceEqDiff, zO, zQ, ↓zR, ↓zS, zT, List.append_nil, Nat.zero_add, List.map_nil, true_and, jg, ↓qaL, hwf]
        refine call_is sanOk ?_ rfl ?_
        · simp [lendsOk, lendOk, lends, lend, wkL, wk, wkB, pos]
        simp -implicitDefEqProofs only [qN, qO, qP, qQ, qR, qS, qV, qX, qY, qZ, za, zc, zB, zF, zI, zJ, zM, ofConst, List.length_nil, List.length_cons, zN, List.getD_eq_getElem?_getD, List.getElem?_cons_zero, ↓reduceIte, Nat.reduceEqDiff, Option.getD_some, zO, zP, zQ, Bool.not_false, ↓zR, ↓zS, zT, List.nil_append, Nat.zero_add, Nat.reduceAdd, Nat.add_zero, reduceCtorEq, zV, resP, tupV, List.reverse_cons, List.reverse_nil, wfV, List.map_cons, List.map_nil, List.drop_zero, List.take_nil, Bool.and_self, true_and, and_self, List.length_map, Bool.false_eq_true, Nat.le_refl, zZ, kf, ↓jh, ↓jj, ↓jk, ↓jl, ↓jo, ↓jp, ↓jv, ↓jz, ↓jE, ↓qaI, List.length_map, List.getElem_map, encB_0]
        intro hcm
        by_cases hc : (cut.length : Int) = N
        · have hcn : ((cut.length : Int) != N) = false := by simp [hc]
          have hc2 : cut.length = N := by omega
          simp -implicitDefEqProofs only [↓zS, hcn]
          refine ⟨by omega, by omega, ?_⟩
          cases h1 : cut[f.toNat]'(by omega) with
          | false =>
            simp -implicitDefEqProofs only [Bool.not_false, ↓zR]
          | true =>
            simp -implicitDefEqProofs only [Bool.not_true, ↓zS]
            refine ⟨by omega, by omega, ?_⟩
            cases h2 : cut[t.toNat]'(by omega) with
            | true =>
              simp -implicitDefEqProofs only [↓zR]
            | false =>
              simp -implicitDefEqProofs only [↓zS]
              refine call_is (ok18 N arcs cut hV hc2) ?_ rfl ?_
              · simp [net, lb, lendsOk, lendOk, lends, lend, wkL, wk, wkB, pos]
              have hw := weak hV hE.1 hr.len hr.pos (cut := cut) (t := t) (by rw [List.getD_eq_getElem?_getD, List.getElem?_eq_getElem (by omega)]; exact h1) (by rw [List.getD_eq_getElem?_getD, List.getElem?_eq_getElem (by omega)]; exact h2) (check_flow (grt_check he hr))
              rw [hvf] at hw
              have hwt : decide (d ≤ cutTo arcs cut arcs.length) = true := decide_eq_true hw
              simp -implicitDefEqProofs only [qN, qO, qP, qQ, qR, qS, qZ, zF, zI, zM, ↓reduceIte, Nat.reduceEqDiff, zO, zQ, ↓zR, ↓zS, zT, List.nil_append, zV, resP, tupV, List.reverse_cons, List.reverse_nil, wfV, Bool.and_self, and_self, Bool.false_eq_true, ↓qaM, hwt]
        · have hcn : ((cut.length : Int) != N) = true := by simp [hc]
          simp -implicitDefEqProofs only [↓zR, hcn]
      | false =>
        have hck2 : (checkI N arcs f t other == 0) = false := by simpa using hck
        simp -implicitDefEqProofs only [qE, qF, qI, qJ, qO, qP, qQ, qR, qS, qV, qZ, zB, zF, zI, zJ, zM, ofConst, List.length_nil, List.length_cons, zN, List.getD_eq_getElem?_getD, List.getElem?_cons_zero, ↓reduceIte, Nat.reduceEqDiff, Option.getD_some, zO, zQ, Bool.not_true, ↓zR, ↓zS, zT, List.append_nil, Nat.zero_add, Nat.reduceAdd, reduceCtorEq, List.map_cons, List.map_nil, List.drop_zero, List.take_nil, true_and, Nat.le_refl, zZ, kf, jg, ↓jj, ↓jl, ↓jp, ↓qaH, hck2]
        refine call_is sanOk ?_ rfl ?_
        · simp [lendsOk, lendOk, lends, lend, wkL, wk, wkB, pos]
        simp -implicitDefEqProofs only [qN, qO, qP, qQ, qR, qS, qV, qX, qY, qZ, za, zc, zB, zF, zI, zJ, zM, ofConst, List.length_nil, List.length_cons, zN, List.getD_eq_getElem?_getD, List.getElem?_cons_zero, ↓reduceIte, Nat.reduceEqDiff, Option.getD_some, zO, zP, zQ, Bool.not_false, ↓zR, ↓zS, zT, List.nil_append, Nat.zero_add, Nat.reduceAdd, Nat.add_zero, reduceCtorEq, zV, resP, tupV, List.reverse_cons, List.reverse_nil, wfV, List.map_cons, List.map_nil, List.drop_zero, List.take_nil, Bool.and_self, true_and, and_self, List.length_map, Bool.false_eq_true, Nat.le_refl, zZ, kf, ↓jh, ↓jj, ↓jk, ↓jl, ↓jo, ↓jp, ↓jv, ↓jz, ↓jE, ↓qaI, List.length_map, List.getElem_map, encB_0]
        intro hcm
        by_cases hc : (cut.length : Int) = N
        · have hcn : ((cut.length : Int) != N) = false := by simp [hc]
          have hc2 : cut.length = N := by omega
          simp -implicitDefEqProofs only [↓zS, hcn]
          refine ⟨by omega, by omega, ?_⟩
          cases h1 : cut[f.toNat]'(by omega) with
          | false =>
            simp -implicitDefEqProofs only [Bool.not_false, ↓zR]
          | true =>
            simp -implicitDefEqProofs only [Bool.not_true, ↓zS]
            refine ⟨by omega, by omega, ?_⟩
            cases h2 : cut[t.toNat]'(by omega) with
            | true =>
              simp -implicitDefEqProofs only [↓zR]
            | false =>
              simp -implicitDefEqProofs only [↓zS]
              refine call_is (ok18 N arcs cut hV hc2) ?_ rfl ?_
              · simp [net, lb, lendsOk, lendOk, lends, lend, wkL, wk, wkB, pos]
              have hw := weak hV hE.1 hr.len hr.pos (cut := cut) (t := t) (by rw [List.getD_eq_getElem?_getD, List.getElem?_eq_getElem (by omega)]; exact h1) (by rw [List.getD_eq_getElem?_getD, List.getElem?_eq_getElem (by omega)]; exact h2) (check_flow (grt_check he hr))
              rw [hvf] at hw
              have hwt : decide (d ≤ cutTo arcs cut arcs.length) = true := decide_eq_true hw
              simp -implicitDefEqProofs only [qN, qO, qP, qQ, qR, qS, qZ, zF, zI, zM, ↓reduceIte, Nat.reduceEqDiff, zO, zQ, ↓zR, ↓zS, zT, List.nil_append, zV, resP, tupV, List.reverse_cons, List.reverse_nil, wfV, Bool.and_self, and_self, Bool.false_eq_true, ↓qaM, hwt]
        · have hcn : ((cut.length : Int) != N) = true := by simp [hc]
          simp -implicitDefEqProofs only [↓zR, hcn]
theorem fn4 : ∀ xs, WfA [.st [.int .i64, .sl 4 (.st [.int .i64, .int .i64, .int .i64, .int .i64])], .int .i64, .int .i64, .sl 1 (.int .i64), .sl 1 .bool] xs → Fn Try.prog 4 xs [] [] (fun r _ => r = .b true) := by
  intro xs h
  obtain ⟨x1, _, rfl, h1, h⟩ := h
  obtain ⟨x2, _, rfl, h2, h⟩ := h
  obtain ⟨x3, _, rfl, h3, h⟩ := h
  obtain ⟨x4, _, rfl, h4, h⟩ := h
  obtain ⟨x5, _, rfl, h5, h⟩ := h
  obtain rfl : _ = [] := h
  obtain ⟨n, arcs, rfl⟩ := wf_net h1
  obtain ⟨f, rfl⟩ := wf_int h2
  obtain ⟨t, rfl⟩ := wf_int h3
  obtain ⟨flow, rfl⟩ := wf_li h4
  obtain ⟨cut, rfl⟩ := wf_lb h5
  exact Fn_post (ok4 n arcs f t flow cut).2 fun r h' h => h.1
end Go.Fx.F
