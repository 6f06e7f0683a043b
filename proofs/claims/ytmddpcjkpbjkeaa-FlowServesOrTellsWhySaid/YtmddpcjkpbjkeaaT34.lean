import Derived.Test.YtmddpcjkpbjkeaaT18
import Derived.Test.YtmddpcjkpbjkeaaFSan
import Derived.Test.YtmddpcjkpbjkeaaFxLaw
import Derived.Test.YtmddpcjkpbjkeaaFxRunSound
set_option linter.unusedVariables false
set_option linter.unusedSimpArgs false
set_option linter.unusedSectionVars false
namespace Go.Fx.F
open Go Go.Fx Go.Proofs
set_option maxRecDepth 20000
def rnet (n : Int) (arcs : List Arc) : V := .agg [.i n, .ro 4 (arcs.map Arc.enc)]
def rli (l : List Int) : V := .ro 1 (l.map encI)
def rlb (l : List Bool) : V := .ro 1 (l.map encB)
theorem valOf {n : Int} {arcs : List Arc} (h : validB n arcs = true) : ∃ N : Nat, n = N ∧ Val N arcs := by
  simp only [validB, Bool.and_eq_true, decide_eq_true_eq, List.all_eq_true, validA] at h
  refine ⟨n.toNat, by omega, ⟨by omega, by omega, fun a ha => ?_⟩⟩
  have := h.2 a ha
  omega
theorem possOf {arcs : List Arc} {flow : List Int} (h : possB arcs flow = true) : flow.length = arcs.length ∧ possP arcs flow := by
  simpa [possB] using h
theorem sanOk : Ok 10 [] (Is (.b true)) := san
theorem ok8 (n : Int) (arcs : List Arc) (f t : Int) (flow : List Int) (cut : List Bool) : Ok 8 [rnet n arcs, .i f, .i t, rli flow, rlb cut] (Is (.b true)) := by
  refine ok_of lw8 (by simp) ?_
  unfold c8
  by_cases q1 : 30 < n
  · by_cases q2 : n ≤ 256
    · simp -implicitDefEqProofs only [qw, rdK, qx, qz, qA, qC, qE, qF, qI, qJ, qO, qP, qQ, qR, qS, qT, qV, qX, qZ, zb, zD, zI, zK, zL, zO, ofConst, cells?, List.length_nil, List.length_cons, List.set_cons_zero, zP, List.getD_eq_getElem?_getD, List.getElem?_cons_zero, ↓reduceIte, Nat.reduceEqDiff, Option.getD_some, zQ, zS, Bool.not_true, Bool.not_false, ↓zT, ↓zU, zV, List.nil_append, List.append_nil, Nat.zero_add, Nat.reduceAdd, Nat.add_zero, freshP, List.map_cons, List.map_nil, List.drop_zero, List.take_nil, Bool.and_true, true_and, and_true, List.length_map, Bool.false_eq_true, Nat.le_refl, lg0, kc, ke, kh, jk, ↓jl, ↓jn, ↓jp, ↓jt, ↓ju, ↓jA, ↓jI, ↓qaO, ↓qaP, List.length_map, cx0_fx, args0, rnet, rli, rlb, q1, q2, decide_true]
      refine call_is sanOk ?_ rfl ?_
      · simp [net, li, lb, lendsOk, lendOk, lends, lend, wkL, wk, wkB, pos]
      simp -implicitDefEqProofs only [qN, qO, qP, qR, zI, zK, zO, ↓reduceIte, List.nil_append, zX, resP, tupV, List.reverse_cons, List.reverse_nil, wfV, Bool.and_self, and_self]
    · simp -implicitDefEqProofs only [qw, rdK, qx, qz, qA, qC, qE, qF, qI, qJ, qO, qP, qQ, qR, qS, qT, qV, qX, qZ, zb, zD, zI, zK, zL, zO, ofConst, cells?, List.length_nil, List.length_cons, List.set_cons_zero, zP, List.getD_eq_getElem?_getD, List.getElem?_cons_zero, ↓reduceIte, Nat.reduceEqDiff, Option.getD_some, zQ, zS, Bool.not_true, Bool.not_false, ↓zT, ↓zU, zV, List.nil_append, List.append_nil, Nat.zero_add, Nat.reduceAdd, Nat.add_zero, freshP, List.map_cons, List.map_nil, List.drop_zero, List.take_nil, Bool.and_true, true_and, and_true, List.length_map, Bool.false_eq_true, Nat.le_refl, lg0, kc, ke, kh, jk, ↓jl, ↓jn, ↓jp, ↓jt, ↓ju, ↓jA, ↓jI, ↓qaO, ↓qaP, List.length_map, cx0_fx, args0, rnet, rli, rlb, q1, q2, decide_true, decide_false]
      simp only [br, decide_eq_true_eq, decide_eq_false_iff_not]
      have hv : validB n arcs = false := by
        simp [validB]; omega
      refine fun hm => ⟨fun h => ?_, fun h => ?_⟩
      · refine call_is sanOk ?_ rfl ?_
        · simp [net, li, lb, lendsOk, lendOk, lends, lend, wkL, wk, wkB, pos]
        simp -implicitDefEqProofs only [qN, qO, qP, qR, zI, zK, zO, ↓reduceIte, List.nil_append, zX, resP, tupV, List.reverse_cons, List.reverse_nil, wfV, Bool.and_self, and_self]
      · refine call_is (ok25 n arcs) ?_ rfl ?_
        · simp [net, li, lb, lendsOk, lendOk, lends, lend, wkL, wk, wkB, pos]
        simp -implicitDefEqProofs only [qz, qC, zD, zI, zK, zO, ↓reduceIte, Nat.reduceEqDiff, List.map_cons, List.map_nil, Bool.and_true, and_true, Bool.false_eq_true, cx0_fx]
        refine call_is (ok26 n arcs) ?_ rfl ?_
        · simp [net, li, lb, lendsOk, lendOk, lends, lend, wkL, wk, wkB, pos]
        simp -implicitDefEqProofs only [qq, qy, qA, qE, qF, qI, qJ, qP, qV, zl, zD, zI, zK, zO, List.length_nil, List.length_cons, zP, List.getD_eq_getElem?_getD, List.getElem?_cons_zero, ↓reduceIte, Nat.reduceEqDiff, Option.getD_some, zR, zS, ↓zU, List.append_nil, Nat.zero_add, Nat.reduceAdd, List.map_cons, List.map_nil, List.drop_zero, List.take_nil, true_and, Nat.le_refl, kc, kh, jk, ↓jn, ↓jp, ↓ju, bne_self_eq_false]
        refine call_is (ok26 n arcs) ?_ rfl ?_
        · simp [net, li, lb, lendsOk, lendOk, lends, lend, wkL, wk, wkB, pos]
        simp -implicitDefEqProofs only [qa, qw, rdK, qx, qz, qA, qC, qE, qF, qI, qJ, qO, qP, qR, qV, zd, zD, zI, zK, zO, List.length_nil, List.length_cons, zP, List.getD_eq_getElem?_getD, List.getElem?_cons_zero, ↓reduceIte, Nat.reduceEqDiff, Option.getD_some, zR, zS, List.append_nil, Nat.zero_add, Nat.reduceAdd, reduceCtorEq, List.map_cons, List.map_nil, List.drop_zero, List.take_nil, Bool.and_true, true_and, and_true, Nat.le_refl, kc, kh, jk, ↓jn, ↓jp, ↓ju, cx0_fx]
        simp -implicitDefEqProofs only [hv, Bool.not_false, ↓zT]
        refine call_is sanOk ?_ rfl ?_
        · simp [net, li, lb, lendsOk, lendOk, lends, lend, wkL, wk, wkB, pos]
        simp -implicitDefEqProofs only [qN, qO, qP, qR, zI, zK, zO, ↓reduceIte, List.nil_append, zX, resP, tupV, List.reverse_cons, List.reverse_nil, wfV, Bool.and_self, and_self]
  simp -implicitDefEqProofs only [qw, rdK, qx, qz, qA, qC, qE, qF, qI, qJ, qO, qP, qQ, qR, qS, qT, qV, qX, qZ, zb, zD, zI, zK, zL, zO, ofConst, cells?, List.length_nil, List.length_cons, List.set_cons_zero, zP, List.getD_eq_getElem?_getD, List.getElem?_cons_zero, ↓reduceIte, Nat.reduceEqDiff, Option.getD_some, zQ, zS, Bool.not_true, Bool.not_false, ↓zT, ↓zU, zV, List.nil_append, List.append_nil, Nat.zero_add, Nat.reduceAdd, Nat.add_zero, freshP, List.map_cons, List.map_nil, List.drop_zero, List.take_nil, Bool.and_true, true_and, and_true, List.length_map, Bool.false_eq_true, Nat.le_refl, lg0, kc, ke, kh, jk, ↓jl, ↓jn, ↓jp, ↓jt, ↓ju, ↓jA, ↓jI, ↓qaO, ↓qaP, List.length_map, cx0_fx, args0, rnet, rli, rlb, q1, decide_false]
  simp only [br, decide_eq_true_eq, decide_eq_false_iff_not]
  refine fun hm => ⟨fun h => ?_, fun h => ?_⟩
  · refine call_is sanOk ?_ rfl ?_
    · simp [net, li, lb, lendsOk, lendOk, lends, lend, wkL, wk, wkB, pos]
    simp -implicitDefEqProofs only [qN, qO, qP, qR, zI, zK, zO, ↓reduceIte, List.nil_append, zX, resP, tupV, List.reverse_cons, List.reverse_nil, wfV, Bool.and_self, and_self]
  refine call_is (ok25 n arcs) ?_ rfl ?_
  · simp [net, li, lb, lendsOk, lendOk, lends, lend, wkL, wk, wkB, pos]
  simp -implicitDefEqProofs only [qz, qC, zD, zI, zK, zO, ↓reduceIte, Nat.reduceEqDiff, List.map_cons, List.map_nil, Bool.and_true, and_true, Bool.false_eq_true, cx0_fx]
  refine call_is (ok26 n arcs) ?_ rfl ?_
  · simp [net, li, lb, lendsOk, lendOk, lends, lend, wkL, wk, wkB, pos]
  simp -implicitDefEqProofs only [qq, qy, qA, qE, qF, qI, qJ, qP, qV, zl, zD, zI, zK, zO, List.length_nil, List.length_cons, zP, List.getD_eq_getElem?_getD, List.getElem?_cons_zero, ↓reduceIte, Nat.reduceEqDiff, Option.getD_some, zR, zS, ↓zU, List.append_nil, Nat.zero_add, Nat.reduceAdd, List.map_cons, List.map_nil, List.drop_zero, List.take_nil, true_and, Nat.le_refl, kc, kh, jk, ↓jn, ↓jp, ↓ju, bne_self_eq_false]
  refine call_is (ok26 n arcs) ?_ rfl ?_
  · simp [net, li, lb, lendsOk, lendOk, lends, lend, wkL, wk, wkB, pos]
  simp -implicitDefEqProofs only [qa, qw, rdK, qx, qz, qA, qC, qE, qF, qI, qJ, qO, qP, qR, qV, zd, zD, zI, zK, zO, List.length_nil, List.length_cons, zP, List.getD_eq_getElem?_getD, List.getElem?_cons_zero, ↓reduceIte, Nat.reduceEqDiff, Option.getD_some, zR, zS, List.append_nil, Nat.zero_add, Nat.reduceAdd, reduceCtorEq, List.map_cons, List.map_nil, List.drop_zero, List.take_nil, Bool.and_true, true_and, and_true, Nat.le_refl, kc, kh, jk, ↓jn, ↓jp, ↓ju, cx0_fx]
  cases hv : validB n arcs with
  | false =>
    simp -implicitDefEqProofs only [Bool.not_false, ↓zT]
    refine call_is sanOk ?_ rfl ?_
    · simp [net, li, lb, lendsOk, lendOk, lends, lend, wkL, wk, wkB, pos]
    simp -implicitDefEqProofs only [qN, qO, qP, qR, zI, zK, zO, ↓reduceIte, List.nil_append, zX, resP, tupV, List.reverse_cons, List.reverse_nil, wfV, Bool.and_self, and_self]
  | true =>
    simp -implicitDefEqProofs only [Bool.not_true, ↓zU]
    obtain ⟨N, rfl, hV⟩ := valOf hv
    refine call_is (ok17 N arcs f t flow hV) ?_ rfl ?_
    · simp [net, li, lb, lendsOk, lendOk, lends, lend, wkL, wk, wkB, pos]
    simp -implicitDefEqProofs only [qz, qC, zD, zI, zK, zO, ↓reduceIte, Nat.reduceEqDiff, List.map_cons, List.map_nil, Bool.and_true, and_true, Bool.false_eq_true, cx0_fx]
    refine call_is (ok27 N arcs f t flow hV) ?_ rfl ?_
    · simp [net, li, lb, lendsOk, lendOk, lends, lend, wkL, wk, wkB, pos]
    simp -implicitDefEqProofs only [qa, qe, qw, rdK, qz, qA, qB, qD, qR, qV, qZ, zD, zI, zK, zO, List.length_nil, List.length_cons, zP, List.getD_eq_getElem?_getD, List.getElem?_cons_zero, ↓reduceIte, Nat.reduceEqDiff, Option.getD_some, zQ, ↓zU, zV, Nat.zero_add, Nat.reduceAdd, reduceCtorEq, List.map_cons, List.map_nil, List.drop_zero, List.take_nil, Bool.and_true, true_and, and_true, Bool.false_eq_true, Nat.le_refl, kc, kh, ↓jn, ↓jp, ↓ju, ↓qaM, cx0_fx, bne_self_eq_false]
    refine call_is (ok16 N arcs f t flow cut hV) ?_ rfl ?_
    · simp [net, li, lb, lendsOk, lendOk, lends, lend, wkL, wk, wkB, pos]
    simp -implicitDefEqProofs only [qz, qD, zD, zI, zK, zO, ↓reduceIte, Nat.reduceEqDiff, ↓zU, zV, List.map_cons, List.map_nil, Bool.and_true, and_true, Bool.false_eq_true, cx0_fx]
    refine call_is (ok28 N arcs f t flow cut hV) ?_ rfl ?_
    · simp [net, li, lb, lendsOk, lendOk, lends, lend, wkL, wk, wkB, pos]
    simp -implicitDefEqProofs only [qa, qb, qc, qe, qf, qq, qw, rdK, qx, qy, qz, qA, qB, qD, qE, qF, qI, qJ, qP, qR, qS, qV, qX, qZ, zb, zl, zD, zI, zK, zL, zO, ofConst, List.length_nil, List.length_cons, zP, List.getD_eq_getElem?_getD, List.getElem?_cons_zero, ↓reduceIte, Nat.reduceEqDiff, Option.getD_some, zQ, zR, zS, Bool.not_true, ↓zT, ↓zU, zV, List.append_nil, Nat.zero_add, Nat.reduceAdd, Nat.add_zero, reduceCtorEq, List.map_cons, List.map_nil, List.drop_zero, List.take_nil, Bool.and_true, true_and, and_true, List.length_map, Bool.false_eq_true, Nat.le_refl, kc, kh, jk, ↓jl, ↓jn, ↓jp, ↓jt, ↓ju, ↓jA, ↓jI, ↓qaL, List.length_map, cx0_fx, bne_self_eq_false]
    intro hcm
    have hN := hV.hn
    have hL := hV.hl
    by_cases hc : (cut.length : Int) = N
    · have hc' : cut.length = N := by omega
      have hcb : ((cut.length : Int) == N) = true := by simp [hc]
      simp -implicitDefEqProofs only [↓zT, hcb]
      refine call_is (ok18 N arcs cut hV hc') ?_ rfl ?_
      · simp [net, li, lb, lendsOk, lendOk, lends, lend, wkL, wk, wkB, pos]
      simp -implicitDefEqProofs only [qz, qD, zD, zI, zK, zO, ↓reduceIte, Nat.reduceEqDiff, ↓zT, zV, List.map_cons, List.map_nil, Bool.and_true, and_true, Bool.false_eq_true, cx0_fx]
      refine call_is (ok29 N arcs cut hV hc') ?_ rfl ?_
      · simp [net, li, lb, lendsOk, lendOk, lends, lend, wkL, wk, wkB, pos]
      simp -implicitDefEqProofs only [qb, qe, qy, qA, qB, qE, qF, qI, qJ, qP, qR, qS, qV, qZ, zD, zI, zK, zO, List.length_nil, List.length_cons, zP, List.getD_eq_getElem?_getD, List.getElem?_cons_zero, ↓reduceIte, Nat.reduceEqDiff, Option.getD_some, zQ, zS, ↓zT, ↓zU, zV, List.append_nil, Nat.zero_add, Nat.reduceAdd, reduceCtorEq, List.map_cons, List.map_nil, List.drop_zero, List.take_nil, true_and, Nat.le_refl, kc, kh, jk, ↓jn, ↓jp, ↓ju, ↓qaM, bne_self_eq_false]
      refine call_is (ok21 N arcs flow) ?_ rfl ?_
      · simp [net, li, lb, lendsOk, lendOk, lends, lend, wkL, wk, wkB, pos]
      simp -implicitDefEqProofs only [qE, qF, qI, qJ, qK, qL, qO, qP, qR, qV, qX, zd, zD, zI, zK, zL, zO, ofConst, List.length_nil, List.length_cons, zP, List.getD_eq_getElem?_getD, List.getElem?_cons_zero, ↓reduceIte, Nat.reduceEqDiff, Option.getD_some, zR, zS, List.append_nil, Nat.zero_add, Nat.add_zero, List.map_nil, jk, ↓jl, ↓jn, ↓jp, ↓jt, ↓jA, cx0_fx]
      cases hp : possB arcs flow with
      | false =>
        simp -implicitDefEqProofs only [Bool.not_false, ↓zT]
        refine call_is sanOk ?_ rfl ?_
        · simp [net, li, lb, lendsOk, lendOk, lends, lend, wkL, wk, wkB, pos]
        simp -implicitDefEqProofs only [qN, qO, qP, qR, zI, zK, zO, ↓reduceIte, List.nil_append, zX, resP, tupV, List.reverse_cons, List.reverse_nil, wfV, Bool.and_self, and_self]
      | true =>
        simp -implicitDefEqProofs only [Bool.not_true, ↓zU]
        have hP := possOf hp
        have hf := hV.flow hP.1 hP.2
        refine loopP_intro (fun k : Nat => ⟨[(83, .i k), (82, .i N), (5, .ptr 0 0 0), (3, .ro 1 (flow.map encI))], [.var [.i N, .ro 4 (arcs.map Arc.enc)]], 0⟩) (fun k => k ≤ N) (fun k => N - k) 0 (by simp) ?_ ?_
        · simp -implicitDefEqProofs only [zO, List.getElem?_cons_zero, ↓reduceIte, Nat.reduceEqDiff, reduceCtorEq, zY, leE, leH, leB, leV, leVs, keepP, liveP, wfE, wfB, wfV, wfL, Bool.and_self, and_self, leVs, leV, Int.natCast_zero]
        intro k hk
        simp -implicitDefEqProofs only [qa, qw, rdK, qx, qz, qA, qC, qE, qF, qI, qJ, qK, qM, qO, qP, qR, qV, qZ, zD, zI, zK, zO, List.length_nil, List.length_cons, zP, List.getD_eq_getElem?_getD, List.getElem?_cons_zero, ↓reduceIte, Nat.reduceEqDiff, Option.getD_some, zQ, zS, List.append_nil, Nat.zero_add, Nat.reduceAdd, List.map_cons, List.map_nil, List.drop_zero, List.take_nil, Bool.and_true, true_and, and_true, Bool.false_eq_true, Nat.le_refl, kc, kh, jk, ↓jn, ↓jp, ↓ju, ↓qaN, cx0_fx]
        simp only [br, decide_eq_true_eq, decide_eq_false_iff_not]
        refine ⟨fun h => ?_, fun h => ?_⟩
        · refine call_is (ok15 N k arcs flow hP.1 (by omega) hN.2 hf (fun a ha => (hV.ha a ha).1) (by omega)) ?_ rfl ?_
          · simp [net, li, lb, lendsOk, lendOk, lends, lend, wkL, wk, wkB, pos]
          simp -implicitDefEqProofs only [qz, qC, zD, zI, zK, zO, ↓reduceIte, Nat.reduceEqDiff, List.map_cons, List.map_nil, Bool.and_true, and_true, Bool.false_eq_true, cx0_fx]
          refine call_is (ok30 N k arcs flow hP.1 (by omega) hf) ?_ rfl ?_
          · simp [net, li, lb, lendsOk, lendOk, lends, lend, wkL, wk, wkB, pos]
          simp -implicitDefEqProofs only [qe, qy, qA, qE, qF, qJ, qO, qP, qR, qZ, zI, zK, zL, zO, ofConst, List.length_nil, List.length_cons, List.getElem?_cons_zero, ↓reduceIte, Nat.reduceEqDiff, zQ, zS, ↓zU, List.append_nil, Nat.zero_add, zY, leE, leH, leB, leV, leVs, keepP, liveP, wfE, wfB, wfV, wfL, Bool.and_true, Bool.and_self, true_and, and_true, and_self, V.v.injEq, Value.int.injEq, Value.bool.injEq, jk, ↓qaF, ↓qaM, bne_self_eq_false]
          exact ⟨by simp only [lo, hi]; omega, k + 1, ⟨by omega, by omega⟩, by simp⟩
        refine call_is sanOk ?_ rfl ?_
        · simp [net, li, lb, lendsOk, lendOk, lends, lend, wkL, wk, wkB, pos]
        simp -implicitDefEqProofs only [qa, qw, rdK, qz, qA, qB, qD, qR, qV, zD, zI, zK, zO, List.length_nil, List.length_cons, zP, List.getD_eq_getElem?_getD, List.getElem?_cons_zero, ↓reduceIte, Nat.reduceEqDiff, Option.getD_some, ↓zT, zV, Nat.zero_add, Nat.reduceAdd, List.map_cons, List.map_nil, List.drop_zero, List.take_nil, Bool.and_true, true_and, and_true, Nat.le_refl, kc, kh, ↓jn, ↓jp, ↓ju, cx0_fx]
        have e1 := ok32 N arcs flow hV hP.1 hP.2
        have e2 := ok33 N arcs flow hV hP.1 hP.2
        have e3 := ok31 N (restA arcs flow arcs.length)
        generalize arcs.length = L at e1 e2 e3
        cases L with
        | zero =>
          refine call_isA [net N arcs, li flow] _ (.agg [.i N, .nil]) _ [] e1 ?_ rfl rfl ?_
          · simp [net, li, lb, lendsOk, lendOk, lends, lend, wkL, wk, wkB, pos]
          simp -implicitDefEqProofs only [qz, qD, zD, zI, zK, zO, ↓reduceIte, Nat.reduceEqDiff, ↓zT, zV, List.append_nil, List.map_cons, List.map_nil, Bool.and_true, and_true, Bool.false_eq_true, cx0_fx]
          refine call_isA [net N arcs, li flow] _ (.agg [.i N, .nil]) _ [] e2 ?_ rfl rfl ?_
          · simp [net, li, lb, lendsOk, lendOk, lends, lend, wkL, wk, wkB, pos]
          simp -implicitDefEqProofs only [qz, qD, zD, zI, zK, zO, ↓reduceIte, Nat.reduceEqDiff, ↓zT, zV, List.append_nil, List.map_cons, List.map_nil, Bool.and_true, and_true, Bool.false_eq_true, cx0_fx]
          refine call_is e3 ?_ rfl ?_
          · simp [net, lendsOk, lendOk, lends, lend, wkL, wk, wkB, pos, restA]
          simp -implicitDefEqProofs only [qa, qb, qy, qA, qN, qR, qS, zI, zK, zO, ↓reduceIte, Nat.reduceEqDiff, zS, ↓zT, List.nil_append, zX, resP, tupV, List.reverse_cons, List.reverse_nil, wfV, Bool.and_self, and_self]
        | succ m =>
          refine call_isA [net N arcs, li flow] _ (.agg [.i N, .sl 6 0 (2 * (m + 1))]) _ [.dead, .dead, .dead, .dead, .dead, .arr 4 (restTo arcs flow (m + 1))] e1 ?_ rfl rfl ?_
          · simp [net, li, lb, lendsOk, lendOk, lends, lend, wkL, wk, wkB, pos]
          simp -implicitDefEqProofs only [qz, qD, zD, zI, zK, zO, ↓reduceIte, Nat.reduceEqDiff, ↓zT, zV, List.nil_append, List.cons_append, List.map_cons, List.map_nil, Bool.and_true, and_true, Bool.false_eq_true, cx0_fx]
          refine call_isA [net N arcs, li flow] _ (.agg [.i N, .sl 12 0 (2 * (m + 1))]) _ [.dead, .dead, .dead, .dead, .dead, .arr 4 (restTo arcs flow (m + 1))] e2 ?_ rfl rfl ?_
          · simp [net, li, lb, lendsOk, lendOk, lends, lend, wkL, wk, wkB, pos]
          simp -implicitDefEqProofs only [qz, qD, zD, zI, zK, zO, ↓reduceIte, Nat.reduceEqDiff, ↓zT, zV, List.nil_append, List.cons_append, List.map_cons, List.map_nil, Bool.and_true, and_true, Bool.false_eq_true, cx0_fx]
          refine call_is e3 ?_ rfl ?_
          · simp [net, lendsOk, lendOk, lends, lend, wkL, wk, wkB, blk, restTo_len, ← restA_enc]
            exact restTo_take arcs flow (m + 1)
          simp -implicitDefEqProofs only [qa, qb, qy, qA, qN, qR, qS, zI, zK, zO, ↓reduceIte, Nat.reduceEqDiff, zS, ↓zT, List.nil_append, zX, resP, tupV, List.reverse_cons, List.reverse_nil, wfV, Bool.and_self, and_self]
    · have hcb : ((cut.length : Int) == N) = false := by simp [hc]
      simp -implicitDefEqProofs only [↓zU, hcb]
      refine call_is (ok21 N arcs flow) ?_ rfl ?_
      · simp [net, li, lb, lendsOk, lendOk, lends, lend, wkL, wk, wkB, pos]
      simp -implicitDefEqProofs only [qE, qF, qI, qJ, qK, qL, qO, qP, qR, qV, qX, zd, zD, zI, zK, zL, zO, ofConst, List.length_nil, List.length_cons, zP, List.getD_eq_getElem?_getD, List.getElem?_cons_zero, ↓reduceIte, Nat.reduceEqDiff, Option.getD_some, zR, zS, List.append_nil, Nat.zero_add, Nat.add_zero, List.map_nil, jk, ↓jl, ↓jn, ↓jp, ↓jt, ↓jA, cx0_fx]
      cases hp : possB arcs flow with
      | false =>
        simp -implicitDefEqProofs only [Bool.not_false, ↓zT]
        refine call_is sanOk ?_ rfl ?_
        · simp [net, li, lb, lendsOk, lendOk, lends, lend, wkL, wk, wkB, pos]
        simp -implicitDefEqProofs only [qN, qO, qP, qR, zI, zK, zO, ↓reduceIte, List.nil_append, zX, resP, tupV, List.reverse_cons, List.reverse_nil, wfV, Bool.and_self, and_self]
      | true =>
        simp -implicitDefEqProofs only [Bool.not_true, ↓zU]
        have hP := possOf hp
        have hf := hV.flow hP.1 hP.2
        refine loopP_intro (fun k : Nat => ⟨[(83, .i k), (82, .i N), (5, .ptr 0 0 0), (3, .ro 1 (flow.map encI))], [.var [.i N, .ro 4 (arcs.map Arc.enc)]], 0⟩) (fun k => k ≤ N) (fun k => N - k) 0 (by simp) ?_ ?_
        · simp -implicitDefEqProofs only [zO, List.getElem?_cons_zero, ↓reduceIte, Nat.reduceEqDiff, reduceCtorEq, zY, leE, leH, leB, leV, leVs, keepP, liveP, wfE, wfB, wfV, wfL, Bool.and_self, and_self, leVs, leV, Int.natCast_zero]
        intro k hk
        simp -implicitDefEqProofs only [qa, qw, rdK, qx, qz, qA, qC, qE, qF, qI, qJ, qK, qM, qO, qP, qR, qV, qZ, zD, zI, zK, zO, List.length_nil, List.length_cons, zP, List.getD_eq_getElem?_getD, List.getElem?_cons_zero, ↓reduceIte, Nat.reduceEqDiff, Option.getD_some, zQ, zS, List.append_nil, Nat.zero_add, Nat.reduceAdd, List.map_cons, List.map_nil, List.drop_zero, List.take_nil, Bool.and_true, true_and, and_true, Bool.false_eq_true, Nat.le_refl, kc, kh, jk, ↓jn, ↓jp, ↓ju, ↓qaN, cx0_fx]
        simp only [br, decide_eq_true_eq, decide_eq_false_iff_not]
        refine ⟨fun h => ?_, fun h => ?_⟩
        · refine call_is (ok15 N k arcs flow hP.1 (by omega) hN.2 hf (fun a ha => (hV.ha a ha).1) (by omega)) ?_ rfl ?_
          · simp [net, li, lb, lendsOk, lendOk, lends, lend, wkL, wk, wkB, pos]
          simp -implicitDefEqProofs only [qz, qC, zD, zI, zK, zO, ↓reduceIte, Nat.reduceEqDiff, List.map_cons, List.map_nil, Bool.and_true, and_true, Bool.false_eq_true, cx0_fx]
          refine call_is (ok30 N k arcs flow hP.1 (by omega) hf) ?_ rfl ?_
          · simp [net, li, lb, lendsOk, lendOk, lends, lend, wkL, wk, wkB, pos]
          simp -implicitDefEqProofs only [qe, qy, qA, qE, qF, qJ, qO, qP, qR, qZ, zI, zK, zL, zO, ofConst, List.length_nil, List.length_cons, List.getElem?_cons_zero, ↓reduceIte, Nat.reduceEqDiff, zQ, zS, ↓zU, List.append_nil, Nat.zero_add, zY, leE, leH, leB, leV, leVs, keepP, liveP, wfE, wfB, wfV, wfL, Bool.and_true, Bool.and_self, true_and, and_true, and_self, V.v.injEq, Value.int.injEq, Value.bool.injEq, jk, ↓qaF, ↓qaM, bne_self_eq_false]
          exact ⟨by simp only [lo, hi]; omega, k + 1, ⟨by omega, by omega⟩, by simp⟩
        refine call_is sanOk ?_ rfl ?_
        · simp [net, li, lb, lendsOk, lendOk, lends, lend, wkL, wk, wkB, pos]
        simp -implicitDefEqProofs only [qa, qw, rdK, qz, qA, qB, qD, qR, qV, zD, zI, zK, zO, List.length_nil, List.length_cons, zP, List.getD_eq_getElem?_getD, List.getElem?_cons_zero, ↓reduceIte, Nat.reduceEqDiff, Option.getD_some, ↓zT, zV, Nat.zero_add, Nat.reduceAdd, List.map_cons, List.map_nil, List.drop_zero, List.take_nil, Bool.and_true, true_and, and_true, Nat.le_refl, kc, kh, ↓jn, ↓jp, ↓ju, cx0_fx]
        have e1 := ok32 N arcs flow hV hP.1 hP.2
        have e2 := ok33 N arcs flow hV hP.1 hP.2
        have e3 := ok31 N (restA arcs flow arcs.length)
        generalize arcs.length = L at e1 e2 e3
        cases L with
        | zero =>
          refine call_isA [net N arcs, li flow] _ (.agg [.i N, .nil]) _ [] e1 ?_ rfl rfl ?_
          · simp [net, li, lb, lendsOk, lendOk, lends, lend, wkL, wk, wkB, pos]
          simp -implicitDefEqProofs only [qz, qD, zD, zI, zK, zO, ↓reduceIte, Nat.reduceEqDiff, ↓zT, zV, List.append_nil, List.map_cons, List.map_nil, Bool.and_true, and_true, Bool.false_eq_true, cx0_fx]
          refine call_isA [net N arcs, li flow] _ (.agg [.i N, .nil]) _ [] e2 ?_ rfl rfl ?_
          · simp [net, li, lb, lendsOk, lendOk, lends, lend, wkL, wk, wkB, pos]
          simp -implicitDefEqProofs only [qz, qD, zD, zI, zK, zO, ↓reduceIte, Nat.reduceEqDiff, ↓zT, zV, List.append_nil, List.map_cons, List.map_nil, Bool.and_true, and_true, Bool.false_eq_true, cx0_fx]
          refine call_is e3 ?_ rfl ?_
          · simp [net, lendsOk, lendOk, lends, lend, wkL, wk, wkB, pos, restA]
          simp -implicitDefEqProofs only [qa, qb, qy, qA, qN, qR, qS, zI, zK, zO, ↓reduceIte, Nat.reduceEqDiff, zS, ↓zT, List.nil_append, zX, resP, tupV, List.reverse_cons, List.reverse_nil, wfV, Bool.and_self, and_self]
        | succ m =>
          refine call_isA [net N arcs, li flow] _ (.agg [.i N, .sl 6 0 (2 * (m + 1))]) _ [.dead, .dead, .dead, .dead, .dead, .arr 4 (restTo arcs flow (m + 1))] e1 ?_ rfl rfl ?_
          · simp [net, li, lb, lendsOk, lendOk, lends, lend, wkL, wk, wkB, pos]
          simp -implicitDefEqProofs only [qz, qD, zD, zI, zK, zO, ↓reduceIte, Nat.reduceEqDiff, ↓zT, zV, List.nil_append, List.cons_append, List.map_cons, List.map_nil, Bool.and_true, and_true, Bool.false_eq_true, cx0_fx]
          refine call_isA [net N arcs, li flow] _ (.agg [.i N, .sl 12 0 (2 * (m + 1))]) _ [.dead, .dead, .dead, .dead, .dead, .arr 4 (restTo arcs flow (m + 1))] e2 ?_ rfl rfl ?_
          · simp [net, li, lb, lendsOk, lendOk, lends, lend, wkL, wk, wkB, pos]
          simp -implicitDefEqProofs only [qz, qD, zD, zI, zK, zO, ↓reduceIte, Nat.reduceEqDiff, ↓zT, zV, List.nil_append, List.cons_append, List.map_cons, List.map_nil, Bool.and_true, and_true, Bool.false_eq_true, cx0_fx]
          refine call_is e3 ?_ rfl ?_
          · simp [net, lendsOk, lendOk, lends, lend, wkL, wk, wkB, blk, restTo_len, ← restA_enc]
            exact restTo_take arcs flow (m + 1)
          simp -implicitDefEqProofs only [qa, qb, qy, qA, qN, qR, qS, zI, zK, zO, ↓reduceIte, Nat.reduceEqDiff, zS, ↓zT, List.nil_append, zX, resP, tupV, List.reverse_cons, List.reverse_nil, wfV, Bool.and_self, and_self]
end Go.Fx.F
namespace Go.Fx.F
open Go Go.Fx Go.Proofs
theorem Fn_post {P : Program} {f : FuncId} {xs : List V} {h0 : List Blk} {mv : List Nat} {R R' : V → List Blk → Prop} (h : Fn P f xs h0 mv R) (hR : ∀ r h', R r h' → R' r h') : Fn P f xs h0 mv R' := by
  intro ρ X w vals h1 h2
  refine Calls.mono (h ρ X w vals h1 h2) ?_
  rintro e w' ⟨val, r, h', ρ', q1, q2, q3, q4, q5, q6⟩
  exact ⟨val, r, h', ρ', q1, ⟨hR r h' q2.1, q2.2⟩, q3, q4, q5, q6⟩
theorem ex_map {α β : Type} {g : α → β} : ∀ {els : List β}, (∀ x ∈ els, ∃ a, x = g a) → ∃ l : List α, els = l.map g
  | [], _ => ⟨[], rfl⟩
  | x :: r, h => by
    obtain ⟨a, rfl⟩ := h x List.mem_cons_self
    obtain ⟨l, rfl⟩ := ex_map (els := r) fun y hy => h y (List.mem_cons_of_mem _ hy)
    exact ⟨a :: l, rfl⟩
theorem wf_arc {x : List V} (h : WfT (.st [.int .i64, .int .i64, .int .i64, .int .i64]) x) : ∃ a : Arc, x = a.enc := by
  simp only [WfT, WfTs] at h
  obtain ⟨_, _, rfl, ⟨a, rfl, _⟩, _, _, rfl, ⟨b, rfl, _⟩, _, _, rfl, ⟨c, rfl, _⟩, _, _, rfl, ⟨d, rfl, _⟩, rfl⟩ := h
  exact ⟨⟨a, b, c, d⟩, rfl⟩
theorem wf_net {x : V} (h : WfV (.st [.int .i64, .sl 4 (.st [.int .i64, .int .i64, .int .i64, .int .i64])]) x) : ∃ n arcs, x = rnet n arcs := by
  obtain ⟨cs, h, rfl⟩ := h
  rw [WfTs.eq_2] at h
  obtain ⟨a, b, rfl, h1, h2⟩ := h
  rw [WfTs.eq_2] at h2
  obtain ⟨c, d, rfl, h3, h4⟩ := h2
  rw [WfTs.eq_1] at h4
  subst h4
  simp only [WfT] at h1
  obtain ⟨n, rfl, _⟩ := h1
  rw [WfT] at h3
  obtain ⟨els, rfl, _, he⟩ := h3
  obtain ⟨arcs, rfl⟩ := ex_map (fun x hx => wf_arc (he x hx))
  exact ⟨n, arcs, rfl⟩
theorem wf_int {x : V} (h : WfV (.int .i64) x) : ∃ n, x = .i n := by
  simp only [WfV, WfT] at h
  obtain ⟨n, h, _⟩ := h
  exact ⟨n, by simpa using h⟩
theorem wf_li {x : V} (h : WfV (.sl 1 (.int .i64)) x) : ∃ l, x = rli l := by
  simp only [WfV] at h
  rw [WfT] at h
  obtain ⟨els, h1, _, he⟩ := h
  obtain ⟨l, rfl⟩ := ex_map (g := encI) (fun x hx => by
    have := he x hx
    simp only [WfT] at this
    obtain ⟨n, rfl, _⟩ := this
    exact ⟨n, rfl⟩)
  exact ⟨l, by simpa [rli, rlb] using h1⟩
theorem wf_lb {x : V} (h : WfV (.sl 1 .bool) x) : ∃ l, x = rlb l := by
  simp only [WfV] at h
  rw [WfT] at h
  obtain ⟨els, h1, _, he⟩ := h
  obtain ⟨l, rfl⟩ := ex_map (g := encB) (fun x hx => by
    have := he x hx
    simp only [WfT] at this
    obtain ⟨n, rfl⟩ := this
    exact ⟨n, rfl⟩)
  exact ⟨l, by simpa [rli, rlb] using h1⟩
theorem fn8 : ∀ xs, WfA [.st [.int .i64, .sl 4 (.st [.int .i64, .int .i64, .int .i64, .int .i64])], .int .i64, .int .i64, .sl 1 (.int .i64), .sl 1 .bool] xs → Fn Try.prog 8 xs [] [] (fun r _ => r = .b true) := by
  intro xs h
  obtain ⟨x1, _, rfl, h1, h⟩ := h
  obtain ⟨x2, _, rfl, h2, h⟩ := h
  obtain ⟨x3, _, rfl, h3, h⟩ := h
  obtain ⟨x4, _, rfl, h4, h⟩ := h
  obtain ⟨x5, _, rfl, h5, h⟩ := h
  obtain rfl : _ = [] := h
  obtain ⟨n, arcs, rfl⟩ := wf_net h1
  obtain ⟨f, rfl⟩ := wf_int h2
  obtain ⟨t, rfl⟩ := wf_int h3
  obtain ⟨flow, rfl⟩ := wf_li h4
  obtain ⟨cut, rfl⟩ := wf_lb h5
  exact Fn_post (ok8 n arcs f t flow cut).2 fun r h' h => h.1
end Go.Fx.F
namespace Go.Fx
open Go.RowKit
theorem rep_none {ρ : Nat → Loc} {X : Nat → Prop} {w : World} {h : List Blk} (hr : Rep ρ X w h) : Rep (gvLoc ρ fun _ => true) X w [] :=
  ⟨fun j k _ h1 => by simp [gvLoc] at h1, fun k _ => by simp [gvLoc], fun k b hb => by simp at hb, fun b ho => hr.disj b (gv_own ho), fun k h1 => by simp [gvLoc] at h1, hr.xlt⟩
/-- What a function hands back anew is given up: from now on it is data. -/
theorem Fn_give {P : Program} {f : FuncId} {args : List V} {mv : List Nat} {R : V → List Blk → Prop} {y : V} (h : Fn P f args [] mv R) (hy : ∀ r hs, R r hs → wk y (gvV (fun _ => true) hs r)) : Fn P f args [] mv (Is y) := by
  intro ρ X w vals h1 h2
  refine Calls.mono (h ρ X w vals h1 h2) ?_
  rintro e w' ⟨val, r, h', ρ', q1, q2, q3, q4, q5, q6⟩
  exact ⟨val, y, [], _, q1, ⟨⟨rfl, rfl⟩, Nat.le_refl _⟩, q3.trans gv_fr, rep_none q4, wk_rep _ _ _ (hy r h' q2.1) (gv_rep q4 _ _ q5), fun k hk => by simp at hk⟩
/-- What a function hands back anew, said in other words. -/
theorem Fn_ghost {P : Program} {f : FuncId} {args : List V} {mv : List Nat} {R R' : V → List Blk → Prop} (h : Fn P f args [] mv R) (hR : ∀ r hs, R r hs → ∃ r' hs', R' r' hs' ∧ leG [] ⟨[(0, r)], hs, 0⟩ ⟨[(0, r')], hs', 0⟩) : Fn P f args [] mv R' := by
  intro ρ X w vals h1 h2
  refine Calls.mono (h ρ X w vals h1 h2) ?_
  rintro e w' ⟨val, r, h', ρ', q1, q2, q3, q4, q5, q6⟩
  obtain ⟨r', hs', g1, g2⟩ := hR r h' q2.1
  have hg : Good ρ X w [] 1 ⟨[(0, r)], h', 0⟩ ⟨#[val], []⟩ w' := by
    refine ⟨ρ', ⟨⟨q3, fun k hk => by simp at hk⟩, trivial⟩, ⟨q4, fun i => ?_⟩, rfl, rfl⟩
    by_cases hi : i = 0
    · subst hi; exact q5
    · have : get [(0, r)] i = .any := by simp [get, hi]
      rw [this]; trivial
  obtain ⟨ρ2, ⟨⟨p1, _⟩, _⟩, ⟨p2, p3⟩, _⟩ := hg.leG g2
  exact ⟨val, r', hs', ρ2, q1, ⟨g1, Nat.zero_le _⟩, p1, p2, p3 0, fun k hk => by simp at hk⟩
end Go.Fx
namespace Go.Fx.F
open Go Go.Fx Go.Proofs
set_option maxRecDepth 20000
theorem ok_give {f : FuncId} {xs : List V} {x y : V} {hs : List Blk} (h : Ok f xs (IsA x hs)) (hy : wk y (gvV (fun _ => true) hs x)) : Ok f xs (Is y) :=
  ⟨h.1, Fn_give h.2 (by rintro r h' ⟨rfl, rfl⟩; exact hy)⟩
theorem run_nil {N : Nat} {f t : Int} {r : List Int} (hft : f ≠ t) (hf : 0 ≤ f ∧ f < N) (ht : 0 ≤ t ∧ t < N) (h : Run [] N f t [] r) : r = [] := by
  have : round [] N f t [] = none := by
    unfold round
    rw [if_pos]
    show (srch [] N f).1.getD t.toNat 0 = -2
    rw [show srch [] N f = _ from bfs_none N]
    have h0 : f.toNat < (List.replicate N (-2 : Int)).length := by simp; omega
    rw [getD_set h0, if_neg (by omega)]
    rw [List.getD_eq_getElem?_getD, List.getElem?_replicate, if_pos (by omega)]
    rfl
  exact h.det (.stop this)
/-- Both programs' greatest flow, zas data. -/
theorem ok36d (N : Nat) (arcs : List Arc) (f t : Int) (r : List Int) (hV : Val N arcs) (hf : 0 ≤ f ∧ f < N) (ht : 0 ≤ t ∧ t < N) (hft : f ≠ t) (hr : Run arcs N f t (List.replicate arcs.length 0) r) (hl : r.length = arcs.length) :
    Ok 36 [net N arcs, .i f, .i t] (Is (.tup [rli r, rlb (cutOf arcs N f r)])) := by
  cases arcs with
  | nil =>
    have := run_nil hft hf ht hr
    subst this
    refine ok_give (ok36z N f t hV hf ht hft) ?_
    have e1 : List.take N ((cutOf [] N f []).map encB) = (cutOf [] N f []).map encB := List.take_of_length_le (by simp [cutOf, cutK_len])
    simp [gvV, gvL, blk, wk, wkL, wkR, rli, rlb, e1]
    simp [cutOf, cutK_len, wk, wkR]
  | cons a l =>
    refine ok_give (ok36 N l.length (a :: l) f t r rfl hV hf ht hft hr) ?_
    have e1 : List.take N ((cutOf (a :: l) N f r).map encB) = (cutOf (a :: l) N f r).map encB := List.take_of_length_le (by simp [cutOf, cutK_len])
    have e2 : List.take (a :: l).length (r.map encI) = r.map encI := List.take_of_length_le (by simp [hl])
    simp only [gvV, gvL, blk, List.getD_eq_getElem?_getD, lg0, lg1, lg2, lg3, lg4, lg5, lg6, lg7, lg8, lg9, kV, wa, wg, wo, wu, wz, wE, List.getElem?_cons_zero, Option.getD_some, if_true, List.drop_zero, e1, e2, Nat.zero_add]
    simp [wk, wkL, wkR, rli, rlb, hl, cutOf, cutK_len]

theorem take_enc {l : List Int} {n : Nat} (h : l.length = n) : List.take n (l.map encI) = l.map encI := List.take_of_length_le (by simp [h])
theorem take_encB {l : List Bool} {n : Nat} (h : l.length = n) : List.take n (l.map encB) = l.map encB := List.take_of_length_le (by simp [h])
theorem cutOf_len {arcs : List Arc} {N : Nat} {f : Int} {fl : List Int} : (cutOf arcs N f fl).length = N := cutK_len
theorem ok12d (N : Nat) (arcs : List Arc) (f t : Int) (r : List Int) (hV : Val N arcs) (he : endsB N f t = true) (hr : Run arcs N f t (List.replicate arcs.length 0) r) (hl : r.length = arcs.length) :
    Ok 12 [net N arcs, .i f, .i t] (Is (.agg [rli r, rlb (cutOf arcs N f r), .i 0])) := by
  have hE : (0 ≤ f ∧ f < N) ∧ (0 ≤ t ∧ t < N) ∧ f ≠ t := by simpa [endsB] using he
  cases arcs with
  | nil =>
    have := run_nil hE.2.2 hE.1 hE.2.1 hr
    subst this
    refine ok_give (ok12z N f t hV he) ?_
    have e1 : List.take N ((cutOf [] N f []).map encB) = (cutOf [] N f []).map encB := take_encB cutOf_len
    simp [gvV, gvL, blk, wk, wkL, wkR, rli, rlb, e1, cutOf_len]
  | cons a l =>
    refine ok_give (ok12 N l.length (a :: l) f t r rfl hV he hr) ?_
    have e1 : List.take N ((cutOf (a :: l) N f r).map encB) = (cutOf (a :: l) N f r).map encB := take_encB cutOf_len
    have e2 : List.take (a :: l).length (r.map encI) = r.map encI := take_enc hl
    simp only [gvV, gvL, blk, List.getD_eq_getElem?_getD, lg0, lg1, lg2, lg3, lg4, lg5, lg6, lg7, lg8, lg9, kV, wa, wg, wo, wu, wz, wE, List.getElem?_cons_zero, Option.getD_some, if_true, List.drop_zero, e1, e2, Nat.zero_add]
    simp [wk, wkL, wkR, rli, rlb, hl, cutOf_len]
theorem ok12e (n : Int) (arcs : List Arc) (f t : Int) (he : endsB n f t = false) : Ok 12 [net n arcs, .i f, .i t] (Is (.agg [rli [], rlb [], .i 1])) :=
  ok_give (ok12n n arcs f t he) (by simp [gvV, gvL, wk, wkL, wkR, rli, rlb])
theorem ok11e (n : Int) (arcs : List Arc) (f t : Int) (he : endsB n f t = false) : Ok 11 [net n arcs, .i f, .i t] (Is (.tup [rli [], rlb [], .i 1])) := by
  refine ok_give (x := .tup [.nil, .nil, .i 1]) (hs := []) ?_ (by simp [gvV, gvL, wk, wkL, wkR, rli, rlb])
  refine ok_of lw11 (by simp) ?_
  unfold c11
  simp -implicitDefEqProofs only [qF, qI, qO, qP, qR, qT, qV, zD, zI, zK, zL, zO, ofConst, cells?, List.length_nil, List.length_cons, List.set_cons_zero, zP, List.getD_eq_getElem?_getD, List.getElem?_cons_zero, ↓reduceIte, Nat.reduceEqDiff, Option.getD_some, List.nil_append, List.append_nil, Nat.zero_add, Nat.reduceAdd, Nat.add_zero, reduceCtorEq, freshP, List.map_cons, List.map_nil, List.drop_zero, List.take_nil, true_and, Nat.le_refl, kc, ke, kh, jk, ↓jl, ↓jn, ↓jp, ↓ju, args0, net]
  refine call_is (ok35 n arcs f t) ?_ rfl ?_
  · simp [net, lendsOk, lendOk, lends, lend, wkL, wk, wkB, pos]
  simp -implicitDefEqProofs only [qF, qI, qJ, qN, qO, qP, qR, zd, zI, zK, zL, zO, ofConst, List.length_nil, List.length_cons, ↓reduceIte, Nat.reduceEqDiff, zR, zS, Bool.not_false, ↓zT, List.nil_append, List.cons_append, List.append_nil, Nat.zero_add, resP, tupV, List.reverse_cons, List.reverse_nil, leH, keepP, wfB, wfV, wfL, Bool.and_self, and_self, Nat.le_refl, jk, he, retP_isA]
theorem ok11d (N : Nat) (arcs : List Arc) (f t : Int) (r : List Int) (hV : Val N arcs) (he : endsB N f t = true) (hr : Run arcs N f t (List.replicate arcs.length 0) r) (hl : r.length = arcs.length) :
    Ok 11 [net N arcs, .i f, .i t] (Is (.tup [rli r, rlb (cutOf arcs N f r), .i 0])) := by
  have hE : (0 ≤ f ∧ f < N) ∧ (0 ≤ t ∧ t < N) ∧ f ≠ t := by simpa [endsB] using he
  refine ok_of lw11 (by simp) ?_
  unfold c11
  simp -implicitDefEqProofs only [qF, qI, qO, qP, qR, qT, qV, zD, zI, zK, zL, zO, ofConst, cells?, List.length_nil, List.length_cons, List.set_cons_zero, zP, List.getD_eq_getElem?_getD, List.getElem?_cons_zero, ↓reduceIte, Nat.reduceEqDiff, Option.getD_some, List.nil_append, List.append_nil, Nat.zero_add, Nat.reduceAdd, Nat.add_zero, reduceCtorEq, freshP, List.map_cons, List.map_nil, List.drop_zero, List.take_nil, true_and, Nat.le_refl, kc, ke, kh, jk, ↓jl, ↓jn, ↓jp, ↓ju, args0, net]
  refine call_is (ok35 N arcs f t) ?_ rfl ?_
  · simp [net, lendsOk, lendOk, lends, lend, wkL, wk, wkB, pos]
  simp -implicitDefEqProofs only [qE, qF, qI, qJ, qO, qP, qR, qV, zd, zD, zI, zK, zO, List.length_nil, List.length_cons, zP, List.getD_eq_getElem?_getD, List.getElem?_cons_zero, ↓reduceIte, Nat.reduceEqDiff, Option.getD_some, zR, zS, Bool.not_true, ↓zU, List.append_nil, Nat.zero_add, Nat.reduceAdd, reduceCtorEq, List.map_cons, List.map_nil, List.drop_zero, List.take_nil, true_and, Nat.le_refl, kc, kh, jk, ↓jn, ↓jp, ↓ju, he]
  refine call_is (ok36d N arcs f t r hV hE.1 hE.2.1 hE.2.2 hr hl) ?_ rfl ?_
  · simp [net, lendsOk, lendOk, lends, lend, wkL, wk, wkB, pos]
  simp -implicitDefEqProofs only [qF, qI, qN, qO, qP, qR, zE, zI, zK, zL, zO, ofConst, List.length_nil, List.length_cons, List.getElem?_cons_zero, ↓reduceIte, Nat.reduceEqDiff, List.nil_append, List.cons_append, List.append_nil, Nat.zero_add, zX, resP, tupV, List.reverse_cons, List.reverse_nil, wfV, wfL, Bool.and_self, and_self, lg0, jk, ↓jl, ↓jN, rli, rlb]
/-- What the rounds keep. -/
theorem Run.keep {N : Nat} {arcs : List Arc} (hV : Val N arcs) {f t : Int} (hf : 0 ≤ f ∧ f < N) (ht : 0 ≤ t ∧ t < N) {fl r : List Int} (h : Run arcs N f t fl r) :
    fl.length = arcs.length → possP arcs fl → r.length = arcs.length ∧ possP arcs r ∧ round arcs N f t r = none ∧ ∃ d, 0 ≤ d ∧ ∀ x, valTo arcs x r arcs.length = valTo arcs x fl arcs.length + (if f = x then d else 0) - (if t = x then d else 0) := by
  induction h with
  | stop h => exact fun h1 h2 => ⟨h1, h2, h, 0, Int.le_refl _, fun x => by split <;> split <;> omega⟩
  | go h _ ih =>
    intro h1 h2
    obtain ⟨q1, q2, d, q3, q4⟩ := round_ok hV hf ht h1 h2 h
    obtain ⟨p1, p2, p3, d', p4, p5⟩ := ih q1 q2
    refine ⟨p1, p2, p3, d + d', by omega, fun x => ?_⟩
    rw [p5, q4]
    split <;> split <;> omega
theorem zero_val (arcs : List Arc) (x : Int) (n : Nat) : ∀ k, valTo arcs x (List.replicate n 0) k = 0
  | 0 => rfl
  | k + 1 => by
    have : (List.replicate n (0 : Int)).getD k 0 = 0 := by
      rw [List.getD_eq_getElem?_getD, List.getElem?_replicate]
      split <;> rfl
    simp only [valTo, zero_val arcs x n k, this]
    split <;> split <;> rfl
theorem zero_poss {N : Nat} {arcs : List Arc} (hV : Val N arcs) : possP arcs (List.replicate arcs.length 0) := fun i h1 h2 => by
  have := (hV.ha arcs[i] (List.getElem_mem h2)).2
  simp; omega
/-- The greatest flow that the rounds end with. -/
structure Grt (N : Nat) (arcs : List Arc) (f t : Int) (r : List Int) : Prop where
  run : Run arcs N f t (List.replicate arcs.length 0) r
  len : r.length = arcs.length
  pos : possP arcs r
  stop : round arcs N f t r = none
  val : ∃ d, 0 ≤ d ∧ ∀ x, valTo arcs x r arcs.length = (if f = x then d else 0) - (if t = x then d else 0)
theorem grt {N : Nat} {arcs : List Arc} (hV : Val N arcs) {f t : Int} (hE : (0 ≤ f ∧ f < N) ∧ (0 ≤ t ∧ t < N) ∧ f ≠ t) : ∃ r, Grt N arcs f t r := by
  obtain ⟨r, hr⟩ := run_ends hV hE.1 hE.2.1 hE.2.2 (((arcs.length : Int) * 1073741824 - valTo arcs f (List.replicate arcs.length 0) arcs.length).toNat) (List.replicate arcs.length 0) (by simp) (zero_poss hV) (by omega)
  obtain ⟨h1, h2, h3, d, h4, h5⟩ := hr.keep hV hE.1 hE.2.1 (by simp) (zero_poss hV)
  exact ⟨r, hr, h1, h2, h3, d, h4, fun x => by rw [h5, zero_val]; omega⟩
theorem ok3 (n : Int) (arcs : List Arc) (f t : Int) : Ok 3 [rnet n arcs, .i f, .i t] (Is (.b true)) := by
  refine ok_of lw3 (by simp) ?_
  unfold c3
  simp -implicitDefEqProofs only [qF, qI, qO, qP, qR, qT, qV, zD, zI, zK, zL, zO, ofConst, cells?, List.length_nil, List.length_cons, List.set_cons_zero, zP, List.getD_eq_getElem?_getD, List.getElem?_cons_zero, ↓reduceIte, Nat.reduceEqDiff, Option.getD_some, List.nil_append, List.append_nil, Nat.zero_add, Nat.reduceAdd, Nat.add_zero, freshP, List.map_cons, List.map_nil, List.drop_zero, List.take_nil, true_and, Nat.le_refl, kc, ke, kh, jk, ↓jl, ↓jn, ↓jp, ↓ju, args0, rnet]
  refine call_is (ok9 n arcs 12 40) ?_ rfl ?_
  · simp [net, lendsOk, lendOk, lends, lend, wkL, wk, wkB, pos]
  cases hF : (decide (n ≤ 12 ∧ (arcs.length : Int) ≤ 40) && validB n arcs) with
  | false =>
    simp -implicitDefEqProofs only [qF, qI, qJ, qO, qP, zd, zD, zI, zK, zO, List.length_nil, List.length_cons, ↓reduceIte, zR, zS, Bool.not_false, ↓zT, List.append_nil, Nat.zero_add, List.map_nil, jk]
    refine call_is sanOk ?_ rfl ?_
    · simp [lendsOk, lendOk, lends, lend, wkL, wk, wkB, pos]
    simp -implicitDefEqProofs only [qN, qO, qP, qR, zI, zK, zO, ↓reduceIte, List.nil_append, zX, resP, tupV, List.reverse_cons, List.reverse_nil, wfV, Bool.and_self, and_self]
  | true =>
    simp only [Bool.and_eq_true, decide_eq_true_eq] at hF
    obtain ⟨N, rfl, hV⟩ := valOf hF.2
    simp -implicitDefEqProofs only [qE, qF, qI, qJ, qO, qP, qR, qV, zd, zD, zI, zK, zO, List.length_nil, List.length_cons, zP, List.getD_eq_getElem?_getD, List.getElem?_cons_zero, ↓reduceIte, Nat.reduceEqDiff, Option.getD_some, zR, zS, Bool.not_true, ↓zU, List.append_nil, Nat.zero_add, Nat.reduceAdd, reduceCtorEq, List.map_cons, List.map_nil, List.drop_zero, List.take_nil, true_and, Nat.le_refl, kc, kh, jk, ↓jn, ↓jp, ↓ju]
    cases he : endsB N f t with
    | false =>
      refine call_is (ok11e N arcs f t he) ?_ rfl ?_
      · simp [net, lendsOk, lendOk, lends, lend, wkL, wk, wkB, pos]
      simp -implicitDefEqProofs only [qF, qI, qO, qP, qR, qV, zD, zE, zI, zK, zO, List.length_nil, List.length_cons, zP, List.getD_eq_getElem?_getD, List.getElem?_cons_zero, ↓reduceIte, Nat.reduceEqDiff, Option.getD_some, List.nil_append, List.cons_append, Nat.zero_add, Nat.reduceAdd, reduceCtorEq, List.map_cons, List.map_nil, List.drop_zero, List.take_nil, true_and, Nat.le_refl, lg0, kc, ke, lg1, kh, jk, ↓jl, ↓jn, ↓jp, ↓ju, ↓jN]
      refine call_is (ok12e N arcs f t he) ?_ rfl ?_
      · simp [net, lendsOk, lendOk, lends, lend, wkL, wk, wkB, pos]
      simp -implicitDefEqProofs only [qF, qI, qO, qP, qU, qW, zD, zI, zJ, zK, zO, ofConst, cells?, List.length_nil, List.length_cons, List.set_cons_zero, splice, zP, List.getD_eq_getElem?_getD, List.getElem?_cons_zero, ↓reduceIte, Nat.reduceEqDiff, Option.getD_some, List.nil_append, List.cons_append, List.append_nil, Nat.zero_add, Nat.reduceAdd, Nat.add_zero, freshP, List.map_cons, List.map_nil, List.take_zero, List.drop_nil, List.all_cons, List.all_nil, isC, Bool.and_true, Bool.and_self, true_and, and_true, and_self, List.not_mem_nil, not_false_eq_true, Nat.le_refl, lg0, zZ, ka, kg, kk, jk, ↓jl, ↓jv, ↓jx, cx0_bn, rli, rlb]
      refine call_is sanOk ?_ rfl ?_
      · simp [lendsOk, lendOk, lends, lend, wkL, wk, wkB, pos]
      simp -implicitDefEqProofs only [qP, qQ, qR, qS, qV, qX, qZ, zD, zI, zK, zO, zP, List.getD_eq_getElem?_getD, List.getElem?_cons_zero, ↓reduceIte, Nat.reduceEqDiff, Option.getD_some, zQ, zS, ↓zT, zV, Nat.zero_add, Nat.add_zero, List.map_cons, List.map_nil, true_and, lg0, lg1, ↓jl, ↓jn, ↓jp, ↓jt, ↓jA, ↓qaL, beq_self_eq_true]
      refine call_is (ok13 [] []) ?_ rfl ?_
      · simp [li, lendsOk, lendOk, lends, lend, wkL, wk, wkB, pos]
      simp -implicitDefEqProofs only [qP, qQ, qR, qS, qV, qX, zD, zI, zK, zO, zP, List.getD_eq_getElem?_getD, List.getElem?_cons_zero, ↓reduceIte, Nat.reduceEqDiff, Option.getD_some, zS, ↓zT, zV, Nat.zero_add, List.map_cons, List.map_nil, lg0, ↓jl, ↓jn, ↓jp, ↓jt, ↓jA, decide_true]
      refine call_is (ok14 [] []) ?_ rfl ?_
      · simp [lb, lendsOk, lendOk, lends, lend, wkL, wk, wkB, pos]
      simp -implicitDefEqProofs only [qN, qO, qP, qR, qS, zI, zK, zO, ↓reduceIte, Nat.reduceEqDiff, zS, ↓zT, List.nil_append, zX, resP, tupV, List.reverse_cons, List.reverse_nil, wfV, Bool.and_self, and_self, decide_true]
    | true =>
      have hE : (0 ≤ f ∧ f < N) ∧ (0 ≤ t ∧ t < N) ∧ f ≠ t := by simpa [endsB] using he
      obtain ⟨r, hr⟩ := grt hV hE
      refine call_is (ok11d N arcs f t r hV he hr.run hr.len) ?_ rfl ?_
      · simp [net, lendsOk, lendOk, lends, lend, wkL, wk, wkB, pos]
      simp -implicitDefEqProofs only [qF, qI, qO, qP, qR, qV, zD, zE, zI, zK, zO, List.length_nil, List.length_cons, zP, List.getD_eq_getElem?_getD, List.getElem?_cons_zero, ↓reduceIte, Nat.reduceEqDiff, Option.getD_some, List.nil_append, List.cons_append, Nat.zero_add, Nat.reduceAdd, reduceCtorEq, List.map_cons, List.map_nil, List.drop_zero, List.take_nil, true_and, Nat.le_refl, lg0, kc, ke, lg1, kh, jk, ↓jl, ↓jn, ↓jp, ↓ju, ↓jN]
      refine call_is (ok12d N arcs f t r hV he hr.run hr.len) ?_ rfl ?_
      · simp [net, lendsOk, lendOk, lends, lend, wkL, wk, wkB, pos]
      simp -implicitDefEqProofs only [qF, qI, qO, qP, qU, qW, zD, zI, zJ, zK, zO, ofConst, cells?, List.length_nil, List.length_cons, List.set_cons_zero, splice, zP, List.getD_eq_getElem?_getD, List.getElem?_cons_zero, ↓reduceIte, Nat.reduceEqDiff, Option.getD_some, List.nil_append, List.cons_append, List.append_nil, Nat.zero_add, Nat.reduceAdd, Nat.add_zero, freshP, List.map_cons, List.map_nil, List.take_zero, List.drop_nil, List.all_cons, List.all_nil, isC, Bool.and_true, Bool.and_self, true_and, and_true, and_self, List.not_mem_nil, not_false_eq_true, Nat.le_refl, lg0, zZ, ka, kg, kk, jk, ↓jl, ↓jv, ↓jx, cx0_bn, rli, rlb]
      refine call_is sanOk ?_ rfl ?_
      · simp [lendsOk, lendOk, lends, lend, wkL, wk, wkB, pos]
      simp -implicitDefEqProofs only [qP, qQ, qR, qS, qV, qX, qZ, zD, zI, zK, zO, zP, List.getD_eq_getElem?_getD, List.getElem?_cons_zero, ↓reduceIte, Nat.reduceEqDiff, Option.getD_some, zQ, zS, ↓zT, zV, Nat.zero_add, Nat.add_zero, List.map_cons, List.map_nil, true_and, lg0, lg1, ↓jl, ↓jn, ↓jp, ↓jt, ↓jA, ↓qaL, beq_self_eq_true]
      refine call_is (ok13 r r) ?_ rfl ?_
      · simp [li, lendsOk, lendOk, lends, lend, wkL, wk, wkB, pos]
      simp -implicitDefEqProofs only [qP, qQ, qR, qS, qV, qX, zD, zI, zK, zO, zP, List.getD_eq_getElem?_getD, List.getElem?_cons_zero, ↓reduceIte, Nat.reduceEqDiff, Option.getD_some, zS, ↓zT, zV, Nat.zero_add, List.map_cons, List.map_nil, lg0, ↓jl, ↓jn, ↓jp, ↓jt, ↓jA, decide_true]
      refine call_is (ok14 (cutOf arcs N f r) (cutOf arcs N f r)) ?_ rfl ?_
      · simp [lb, lendsOk, lendOk, lends, lend, wkL, wk, wkB, pos]
      simp -implicitDefEqProofs only [qN, qO, qP, qR, qS, zI, zK, zO, ↓reduceIte, Nat.reduceEqDiff, zS, ↓zT, List.nil_append, zX, resP, tupV, List.reverse_cons, List.reverse_nil, wfV, Bool.and_self, and_self, decide_true]
theorem fn3 : ∀ xs, WfA [.st [.int .i64, .sl 4 (.st [.int .i64, .int .i64, .int .i64, .int .i64])], .int .i64, .int .i64] xs → Fn Try.prog 3 xs [] [] (fun r _ => r = .b true) := by
  intro xs h
  obtain ⟨x1, _, rfl, h1, h⟩ := h
  obtain ⟨x2, _, rfl, h2, h⟩ := h
  obtain ⟨x3, _, rfl, h3, h⟩ := h
  obtain rfl : _ = [] := h
  obtain ⟨n, arcs, rfl⟩ := wf_net h1
  obtain ⟨f, rfl⟩ := wf_int h2
  obtain ⟨t, rfl⟩ := wf_int h3
  exact Fn_post (ok3 n arcs f t).2 fun r h' h => h.1
end Go.Fx.F
namespace Go.Fx.F
open Go Go.Fx Go.Proofs
set_option maxRecDepth 20000
theorem ok_ghost {f : FuncId} {xs : List V} {x y : V} {hs hs' : List Blk} (h : Ok f xs (IsA x hs)) (hy : leG [] ⟨[(0, x)], hs, 0⟩ ⟨[(0, y)], hs', 0⟩) : Ok f xs (IsA y hs') :=
  ⟨h.1, Fn_ghost h.2 (by rintro r h' ⟨rfl, rfl⟩; exact ⟨y, hs', ⟨rfl, rfl⟩, hy⟩)⟩
def bigB (x : Int) : Bool := decide (1073741824 < x ∨ x < -1073741824)
theorem ok41 (x : Int) : Ok 41 [.i x] (Is (.b (bigB x))) := by
  refine ok_of lw41 (by simp) ?_
  unfold c41
  simp -implicitDefEqProofs only [qF, qI, qN, qO, qP, qQ, qR, qS, qZ, zI, zK, zL, zO, ofConst, List.length_nil, ↓reduceIte, Nat.reduceEqDiff, zQ, zS, Bool.not_false, ↓zT, ↓zU, zV, List.nil_append, List.append_nil, reduceCtorEq, zX, resP, tupV, List.reverse_cons, List.reverse_nil, wfV, true_and, V.v.injEq, Value.int.injEq, Value.bool.injEq, Bool.false_eq_true, jk, ↓qaN, ↓qaP, args0]
  simp only [br, decide_eq_true_eq, decide_eq_false_iff_not, bigB]
  grind
def firstB (l : List Int) : Int := if l.any bigB then (l.findIdx bigB : Nat) else -1
theorem ok46 (l : List Int) : Ok 46 [li l, .clo 41 []] (Is (.i (firstB l))) := by
  refine ok_of lw46 (by simp) ?_
  unfold c46 li
  simp -implicitDefEqProofs only [qF, qI, qK, qL, qO, qP, qR, zb, zI, zK, zL, zO, ofConst, List.length_nil, ↓reduceIte, List.append_nil, Nat.zero_add, reduceCtorEq, List.length_map, jk, ↓jJ, List.length_map, cx0_fx, args0]
  intro hm
  refine loopP_intro (fun k : Nat => ⟨[(8, .i k), (7, .i l.length), (1, .clo 41 []), (0, .bro 1 (l.map encI))], [], 0⟩) (fun k => k ≤ l.length ∧ ∀ j (h : j < l.length), j < k → bigB l[j] = false) (fun k => l.length - k) 0 (by simp) ?_ ?_
  · simp -implicitDefEqProofs only [zO, ↓reduceIte, Nat.reduceEqDiff, reduceCtorEq, zY, leE, leH, keepP, wfE, wfB, wfV, wfL, Bool.and_self, and_self, Int.natCast_zero]
  rintro k ⟨hk, hv⟩
  simp -implicitDefEqProofs only [qE, qF, qI, qJ, qK, qM, qN, qO, qP, qR, qV, qY, qZ, zG, zI, zK, zL, zO, ofConst, List.length_nil, ↓reduceIte, Nat.reduceEqDiff, zQ, zS, List.nil_append, List.append_nil, reduceCtorEq, zX, resP, tupV, List.reverse_cons, List.reverse_nil, wfV, List.map_cons, List.map_nil, true_and, V.v.injEq, Value.int.injEq, Value.bool.injEq, List.length_map, jk, ↓jl, ↓jo, ↓jt, ↓jE, ↓jQ, ↓qaN, List.length_map, List.getElem_map, encI_0, Int.toNat_natCast]
  simp only [br, Int.toNat_natCast, decide_eq_true_eq, decide_eq_false_iff_not]
  refine ⟨fun h => ⟨⟨by omega, h⟩, by omega, ?_⟩, fun h => ?_⟩
  · have hk : k < l.length := by omega
    refine call_is (ok41 l[k]) ?_ rfl ?_
    · simp [lendsOk, lendOk, lends, lend, wkL, wk, pos]
    cases hb : bigB l[k] with
    | true =>
      simp -implicitDefEqProofs only [qF, qI, qJ, qN, qO, qP, qR, zI, zK, zO, List.length_nil, ↓reduceIte, Nat.reduceEqDiff, zS, ↓zT, List.nil_append, List.append_nil, zX, resP, tupV, List.reverse_cons, List.reverse_nil, wfV, true_and, V.v.injEq, Value.int.injEq, Value.bool.injEq, jk]
      have h1 : l.any bigB = true := by
        rw [List.any_eq_true]; exact ⟨_, List.getElem_mem hk, hb⟩
      have h2 : l.findIdx bigB = k := by
        rw [List.findIdx_eq hk]
        exact ⟨hb, fun j hj => hv j (by omega) hj⟩
      simp [firstB, h1, h2]
    | false =>
      simp -implicitDefEqProofs only [qE, qF, qJ, qO, qP, qR, qZ, zI, zK, zL, zO, ofConst, List.length_nil, ↓reduceIte, Nat.reduceEqDiff, zQ, zS, ↓zU, List.append_nil, reduceCtorEq, zY, leE, leH, keepP, wfE, wfB, wfV, wfL, Bool.and_true, Bool.and_self, true_and, and_true, and_self, V.v.injEq, Value.int.injEq, Value.bool.injEq, jk, ↓qaF]
      refine ⟨by simp only [lo, hi, maxLen] at hm ⊢; omega, k + 1, ⟨⟨by omega, fun j hj h2 => ?_⟩, by omega⟩, by simp⟩
      by_cases h3 : j = k
      · subst h3; exact hb
      · exact hv j hj (by omega)
  · have : k = l.length := by omega
    have hall : l.any bigB = false := by
      rw [List.any_eq_false]
      intro a ha
      obtain ⟨j, hj, rfl⟩ := List.getElem_of_mem ha
      rw [hv j hj (by omega)]; simp
    simp [firstB, hall]
theorem ok40 (l : List Int) : Ok 40 [li l, .clo 41 []] (Is (.b (l.any bigB))) := by
  refine ok_of lw40 (by simp) ?_
  unfold c40 li
  simp -implicitDefEqProofs only [qF, qI, qO, qP, qR, zD, zI, zK, zL, zO, ofConst, List.length_nil, ↓reduceIte, Nat.reduceEqDiff, List.append_nil, Nat.zero_add, reduceCtorEq, List.map_cons, List.map_nil, jk, args0]
  refine call_is (ok46 l) ?_ rfl ?_
  · simp [li, lendsOk, lendOk, lends, lend, wkL, wk, wkB, pos]
  simp -implicitDefEqProofs only [qN, qO, qP, qR, qZ, zI, zK, zL, zO, ofConst, ↓reduceIte, zQ, List.nil_append, zX, resP, tupV, List.reverse_cons, List.reverse_nil, wfV, true_and, V.v.injEq, Value.int.injEq, Value.bool.injEq, ↓qaQ]
  unfold firstB
  by_cases h : l.any bigB = true
  · simp [h]
  · simp only [h]
    simp
theorem ok44 (n : Int) (arcs : List Arc) (l : List Int) : Ok 44 [net n arcs, li l] (Is (.b (decide ((l.length : Int) = n) && !l.any bigB))) := by
  refine ok_of lw44 (by simp) ?_
  unfold c44 li
  simp -implicitDefEqProofs only [qF, qI, qK, qL, qO, qP, qR, qT, zI, zK, zL, zO, ofConst, cells?, List.length_nil, List.length_cons, List.set_cons_zero, List.getElem?_cons_zero, ↓reduceIte, List.nil_append, List.append_nil, Nat.zero_add, Nat.add_zero, freshP, true_and, ke, jk, ↓jl, cx0_fx, args0, net]
  refine loopP_intro (fun k : Nat => ⟨[(5, .i k), (2, .ptr 0 0 0), (1, .bro 1 (l.map encI))], [.var [.i n, .bro 4 (arcs.map Arc.enc)]], 0⟩) (fun k => k ≤ l.length ∧ ∀ j (h : j < l.length), j < k → bigB l[j] = false) (fun k => l.length - k) 0 (by simp) ?_ ?_
  · simp -implicitDefEqProofs only [zO, List.getElem?_cons_zero, ↓reduceIte, Nat.reduceEqDiff, reduceCtorEq, zY, leE, leH, leB, leV, leVs, keepP, liveP, wfE, wfB, wfV, wfL, Bool.and_self, and_self, leVs, leV, Int.natCast_zero]
  rintro k ⟨hk, hv⟩
  simp -implicitDefEqProofs only [qE, qF, qI, qJ, qK, qM, qN, qO, qP, qQ, qR, qS, qV, qX, qY, qZ, zb, zI, zK, zL, zO, ofConst, List.length_nil, List.length_cons, zP, List.getD_eq_getElem?_getD, List.getElem?_cons_zero, ↓reduceIte, Nat.reduceEqDiff, Option.getD_some, zQ, zS, Bool.not_false, ↓zT, ↓zU, zV, List.nil_append, List.append_nil, Nat.zero_add, Nat.add_zero, zX, resP, tupV, List.reverse_cons, List.reverse_nil, zY, leE, leH, leB, leV, leVs, keepP, liveP, wfE, wfB, wfV, wfL, Bool.and_true, Bool.and_self, true_and, and_true, and_self, V.v.injEq, Value.int.injEq, Value.bool.injEq, List.length_map, Bool.false_eq_true, jk, ↓jl, ↓jn, ↓jo, ↓jp, ↓jt, ↓jA, ↓jE, ↓jJ, ↓qaF, ↓qaL, ↓qaN, ↓qaP, List.length_map, List.getElem_map, encI_0, Int.toNat_natCast]
  simp only [br, Int.toNat_natCast, decide_eq_true_eq, decide_eq_false_iff_not]
  refine fun hm => ⟨fun h => ⟨⟨by omega, h⟩, by omega, ?_⟩, fun h => ?_⟩
  · have hk : k < l.length := by omega
    have hany : bigB l[k] = true → false = (decide ((l.length : Int) = n) && !l.any bigB) := by
      intro hb
      have h1 : l.any bigB = true := by
        rw [List.any_eq_true]; exact ⟨_, List.getElem_mem hk, hb⟩
      simp [h1]
    refine ⟨fun hb => hany (by simp [bigB, hb]), fun hb => ⟨⟨by omega, h⟩, by omega, fun hb2 => hany (by simp [bigB, hb2]), fun hb2 => ?_⟩⟩
    refine ⟨by simp only [lo, hi, maxLen] at hm ⊢; omega, k + 1, ⟨⟨by omega, fun j hj h2 => ?_⟩, by omega⟩, by simp⟩
    by_cases h3 : j = k
    · subst h3
      unfold bigB
      simp; omega
    · exact hv j hj (by omega)
  · have : k = l.length := by omega
    have hall : l.any bigB = false := by
      rw [List.any_eq_false]
      intro a ha
      obtain ⟨j, hj, rfl⟩ := List.getElem_of_mem ha
      rw [hv j hj (by omega)]; simp
    refine fun _ => ?_
    rw [hall]
    simp
    by_cases he : (l.length : Int) = n <;> simp [he]
theorem bi_an {k : IntKind} {a c : Int} {K : V → Prop} {x : Bool} : binInt .and x k a c K = K (.v (.int k (k.wrap ((BitVec.ofInt k.bits a &&& BitVec.ofInt k.bits c).toNat : Int)))) := rfl
theorem sh_r {k : IntKind} {a c : Int} {K : V → Prop} : shiftInt .shr k a c K = (0 ≤ c ∧ K (.v (.int k (a.fdiv (2 ^ (min c.toNat k.bits)))))) := rfl
theorem and_mask {a : Nat} (h : a < 4294967296) : IntKind.wrap .u64 (((BitVec.ofInt (IntKind.bits .u64) (a : Int) &&& BitVec.ofInt (IntKind.bits .u64) 4294967295).toNat : Nat) : Int) = (a : Int) := by
  have h1 : (BitVec.ofInt (IntKind.bits .u64) (a : Int) &&& BitVec.ofInt (IntKind.bits .u64) 4294967295).toNat = a := by
    rw [BitVec.toNat_and]
    have e1 : (BitVec.ofInt (IntKind.bits .u64) (a : Int)).toNat = a := by
      rw [BitVec.toNat_ofInt]
      show (((a : Int) % ((2 ^ 64 : Nat) : Int)).toNat) = a
      omega
    have e2 : (BitVec.ofInt (IntKind.bits .u64) 4294967295).toNat = 2 ^ 32 - 1 := by decide
    rw [e1, e2, Nat.and_two_pow_sub_one_eq_mod]
    omega
  rw [h1]
  exact wrap_in .u64 _ (by simp only [lo, hi]; omega)
theorem shr32 {a : Nat} (h : a < 4294967296) : (a : Int).fdiv (2 ^ (min (Int.toNat 32) (IntKind.bits .u64))) = 0 := by
  show (a : Int).fdiv (2 ^ 32) = 0
  rw [Int.fdiv_eq_ediv_of_nonneg _ (by decide)]
  omega
theorem ok63 (n : Nat) (h : n < 1000000) : Ok 63 [.v (.int .u64 ((1 : Nat) : Int)), .v (.int .u64 n)] (Is (.tup [.v (.int .u64 ((0 : Nat) : Int)), .v (.int .u64 n)])) := by
  refine ok_of lw63 (by simp) ?_
  unfold c63
  have e1 := and_mask (a := 1) (by omega)
  have e0 := and_mask (a := 0) (by omega)
  have en := and_mask (a := n) (by omega)
  have s1 := shr32 (a := 1) (by omega)
  have s0 := shr32 (a := 0) (by omega)
  have sn := shr32 (a := n) (by omega)
  have m1 : ((1 : Nat) : Int) * (n : Int) = n := by simp
  have m0 : (0 : Int) * (n : Int) = 0 := Int.zero_mul _
  have mz : ((1 : Nat) : Int) * 0 = 0 := rfl
  have zz : (0 : Int) * 0 = 0 := rfl
  have za : (0 : Int) + 0 = 0 := rfl
  have ez : IntKind.wrap .u64 (((BitVec.ofInt (IntKind.bits .u64) (0 : Int) &&& BitVec.ofInt (IntKind.bits .u64) 4294967295).toNat : Nat) : Int) = (0 : Int) := e0
  have sz : (0 : Int).fdiv (2 ^ (min (Int.toNat 32) (IntKind.bits .u64))) = 0 := s0
  have h32 : (0 : Int) ≤ 32 := by omega
  have b0 : (lo .u64 ≤ (0 : Int) ∧ (0 : Int) ≤ hi .u64) := by simp only [lo, hi]; omega
  have bn : (lo .u64 ≤ (n : Int) ∧ (n : Int) ≤ hi .u64) := by simp only [lo, hi]; omega
  simp -implicitDefEqProofs only [qF, qI, qN, qO, qP, qR, qZ, zn, zI, zK, zL, zO, ofConst, List.length_nil, ↓reduceIte, Nat.reduceEqDiff, zQ, List.nil_append, List.cons_append, List.append_nil, Nat.zero_add, reduceCtorEq, zX, resP, tupV, List.reverse_cons, List.reverse_nil, wfV, wfL, Bool.and_self, true_and, and_self, jk, ↓qaF, ↓qaJ, args0, ↓bi_an, ↓sh_r, e1, en, s1, sn, m1, m0, mz, zz, za, ez, sz, eq_true h32, eq_true b0, eq_true bn]
  first | rfl | trivial
theorem ok58 (n : Nat) (h : n < 1000000) : Ok 58 [.v (.int .u64 ((1 : Nat) : Int)), .v (.int .u64 n)] (Is (.tup [.v (.int .u64 ((0 : Nat) : Int)), .v (.int .u64 n)])) := by
  refine ok_of lw58 (by simp) ?_
  unfold c58
  simp -implicitDefEqProofs only [qE, qF, qI, qJ, qO, qP, qR, zf, zD, zI, zK, zL, zO, ofConst, List.length_nil, ↓reduceIte, Nat.reduceEqDiff, zQ, zS, ↓zU, List.append_nil, Nat.zero_add, reduceCtorEq, List.map_cons, List.map_nil, Bool.false_eq_true, jk, args0]
  refine call_is (ok63 n h) ?_ rfl ?_
  · simp [lendsOk, lendOk, lends, lend, wkL, wk, pos]
  simp -implicitDefEqProofs only [qF, qI, qN, qO, qP, qR, zE, zI, zK, zO, List.length_nil, List.getElem?_cons_zero, ↓reduceIte, Nat.reduceEqDiff, List.nil_append, List.cons_append, List.append_nil, zX, resP, tupV, List.reverse_cons, List.reverse_nil, wfV, wfL, Bool.and_self, and_self, lg0, jk, ↓jl, ↓jN]
theorem rep_app {n m : Nat} {x : List V} : List.replicate n x ++ List.replicate m x = List.replicate (n + m) x := by
  rw [List.replicate_append_replicate]
theorem ok43 (N : Nat) (h1 : 1 ≤ N) (h2 : N ≤ 1000) : Ok 43 [lb [true], .i N] (Is (.ro 1 (List.replicate N (encB true)))) := by
  refine ok_give (x := .sl 0 0 N) (hs := [.arr 1 (List.replicate N (encB true))]) ?_ (by simp [gvV, blk, wk, wkR])
  refine ok_of lw43 (by simp) ?_
  unfold c43 lb
  have w1 : IntKind.wrap .u64 (((1 : Nat) : Int)) = ((1 : Nat) : Int) := wrap_in .u64 _ (by simp only [lo, hi]; omega)
  have wn : IntKind.wrap .u64 (N : Int) = N := wrap_in .u64 _ (by simp only [lo, hi]; omega)
  have wi : IntKind.wrap .i64 (N : Int) = N := wrap_in .i64 _ (by simp only [lo, hi]; omega)
  have hneg : decide ((N : Int) < 0) = false := decide_eq_false (by omega)
  have hz : decide ((0 : Int) < ((0 : Nat) : Int)) = false := rfl
  have hbig : decide ((9223372036854775807 : Int) < (N : Int)) = false := decide_eq_false (by omega)
  have hff : (if false = true then (lo .u64 ≤ 0 ∧ 0 ≤ hi .u64) else False) = False := by simp
  simp -implicitDefEqProofs only [qE, qF, qI, qJ, qO, qP, qR, qZ, zb, zf, zD, zI, zK, zL, zO, ofConst, List.length_nil, List.length_cons, ↓reduceIte, Nat.reduceEqDiff, zQ, zS, ↓zU, List.append_nil, Nat.zero_add, reduceCtorEq, List.map_cons, List.map_nil, true_and, Bool.false_eq_true, jk, ↓jJ, ↓qaN, args0, hneg]
  intro _
  simp -implicitDefEqProofs only [w1, wn]
  refine call_is (ok58 N (by omega)) ?_ rfl ?_
  · simp [lendsOk, lendOk, lends, lend, wkL, wk, pos, w1]
  simp -implicitDefEqProofs only [qE, qF, qI, qJ, qK, qL, qO, qP, qQ, qR, qS, qZ, zf, zq, zt, zE, zI, zK, zL, zO, ofConst, List.length_nil, List.length_cons, List.set_cons_zero, zP, List.getD_eq_getElem?_getD, List.getElem?_cons_zero, ↓reduceIte, Nat.reduceEqDiff, Option.getD_some, zQ, zS, Bool.not_false, ↓zT, ↓zU, zV, List.nil_append, List.append_nil, Nat.zero_add, Nat.add_zero, reduceCtorEq, freshP, List.map_cons, List.map_nil, List.take_zero, Bool.and_self, true_and, and_self, List.not_mem_nil, false_or, List.length_replicate, not_false_eq_true, Bool.false_eq_true, Nat.le_refl, lg0, ke, jk, ↓jl, ↓jN, ↓jV, ↓qan, ↓qao, ↓qaP, Int.toNat_natCast, cx0_bn, cx0_fx, hz, hbig, wi]
  refine ⟨⟨⟨by omega, by omega⟩, by omega, by omega⟩, ?_⟩
  have hmin : min 1 N = 1 := by omega
  refine loopP_intro (fun n : Nat => ⟨[(8, .i n), (7, .sl 0 0 N)], [.arr 1 (List.replicate n (encB true) ++ List.replicate (N - n) (encB false))], 0⟩) (fun n => 1 ≤ n ∧ n ≤ N) (fun n => N - n) 1 (by omega) ?_ ?_
  · simp -implicitDefEqProofs only [zO, List.getElem?_cons_zero, ↓reduceIte, Nat.reduceEqDiff, List.nil_append, List.cons_append, zY, leE, leH, leB, keepP, liveP, wfE, wfB, wfV, Bool.and_true, Bool.and_self, true_and, and_true, and_self, ke, jk, hmin]
    have : List.take N [encB true] = [encB true] := List.take_of_length_le (by simp; omega)
    rw [this, List.drop_replicate]
    simp
    exact .inr rfl
  rintro n ⟨hn1, hn2⟩
  simp -implicitDefEqProofs only [qa, qe, qo, qx, qy, qz, qA, qC, qE, qF, qI, qJ, qK, qM, qN, qO, qP, qR, qZ, zb, zj, zt, zI, zK, zO, List.length_nil, List.length_cons, List.set_cons_zero, zP, List.getD_eq_getElem?_getD, List.getElem?_cons_zero, ↓reduceIte, Nat.reduceEqDiff, Option.getD_some, zQ, arrSz, zS, List.nil_append, List.append_nil, Nat.zero_add, Option.map_some, Option.map_none, slcOk, Option.getD_none, resP, tupV, List.reverse_cons, List.reverse_nil, zY, leE, leH, leB, keepP, liveP, wfE, wfB, wfV, Bool.and_true, Bool.and_self, true_and, and_true, and_self, V.v.injEq, Value.int.injEq, Value.bool.injEq, List.not_mem_nil, List.length_append, List.length_replicate, not_false_eq_true, Bool.false_eq_true, Nat.reduceLeDiff, Nat.le_refl, jk, ↓jH, ↓jS, ↓jT, ↓jY, ↓jZ, ↓qaa, ↓qan, ↓qao, ↓qaF, ↓qaN, Int.toNat_natCast, cx0_fx, retP_isA]
  intro hmx
  simp only [br, decide_eq_true_eq, decide_eq_false_iff_not]
  refine ⟨fun h => ?_, fun h => ?_⟩
  · have h00 : Int.toNat 0 = 0 := rfl
    have e1 : List.take n (List.replicate n (encB true) ++ List.replicate (N - n) (encB false)) = List.replicate n (encB true) := by
      rw [List.take_append_of_le_length (by simp), List.take_of_length_le (by simp)]
    simp only [h00, Nat.sub_zero, List.drop_zero, Nat.zero_add, e1, List.length_replicate]
    refine ⟨⟨⟨by omega, by omega⟩, by omega⟩, ⟨⟨by omega, by omega⟩, by omega, by omega⟩, by omega, .inr trivial, ⟨by simp only [lo]; omega, by simp only [hi]; omega⟩, n + min n (N - n), ⟨⟨by omega, by omega⟩, by omega⟩, by omega, ?_⟩
    have e2 : List.drop (n + min n (N - n)) (List.replicate n (encB true) ++ List.replicate (N - n) (encB false)) = List.replicate (N - (n + min n (N - n))) (encB false) := by
      rw [List.drop_append, List.drop_replicate, List.drop_replicate, List.length_replicate, show n - (n + min n (N - n)) = 0 by omega, show N - n - (n + min n (N - n) - n) = N - (n + min n (N - n)) by omega]
      rfl
    rw [e2, List.take_replicate, rep_app, show min (N - n) n = min n (N - n) by omega]
  · have : N - n = 0 := by omega
    have : n = N := by omega
    subst this
    simp
theorem ok42n : Ok 42 [.bro 4 ([] : List (List V))] (fun r hs => (r = .nil ∧ hs = []) ∨ (r = .sl 0 0 0 ∧ hs = [.arr 4 []])) := by
  refine ok_of lw42 (by simp) ?_
  unfold c42
  simp -implicitDefEqProofs only [qE, qF, qI, qJ, qN, qO, qP, qR, zo, zp, zr, zI, zK, zL, zO, ofConst, List.length_nil, List.set_cons_zero, zP, List.getD_eq_getElem?_getD, List.getElem?_cons_zero, ↓reduceIte, Nat.reduceEqDiff, Option.getD_some, zS, ↓zT, ↓zU, List.nil_append, List.append_nil, Nat.add_zero, reduceCtorEq, freshP, litsP, resP, tupV, List.reverse_cons, List.reverse_nil, keepP, liveP, wfV, killE, killB, kill, St.kill, List.map_cons, List.map_nil, List.take_nil, List.drop_nil, Bool.and_self, true_and, and_self, List.mem_cons, List.not_mem_nil, or_false, not_false_eq_true, Bool.false_eq_true, Nat.le_refl, ke, ki, jk, ↓jV, ↓qag, ↓qaj, ↓qak, cx0_bn, cx0_fx, args0, retP_eq]
  refine ⟨fun h => absurd rfl h, fun _ => ⟨⟨[], ⟨by simp [leH], Nat.zero_le _, by simp [wfB]⟩, .inl rfl⟩, .inl trivial, by decide, [.arr 4 []], ⟨by simp [leH, leB], by simp, trivial, by simp [wfB]⟩, .inr rfl⟩⟩
theorem ok42c (a : Arc) (l : List Arc) (h : (a :: l).length ≤ 2048) : Ok 42 [.bro 4 ((a :: l).map Arc.enc)] (IsA (.sl 0 0 (a :: l).length) [.arr 4 ((a :: l).map Arc.enc)]) := by
  refine ok_of lw42 (by simp) ?_
  unfold c42
  simp -implicitDefEqProofs only [qE, qF, qI, qJ, qN, qO, qP, qR, zo, zp, zr, zI, zK, zL, zO, ofConst, List.length_nil, List.length_cons, List.set_cons_zero, zP, List.getD_eq_getElem?_getD, List.getElem?_cons_zero, ↓reduceIte, Nat.reduceEqDiff, Option.getD_some, zS, ↓zT, ↓zU, List.nil_append, List.append_nil, Nat.zero_add, Nat.add_zero, reduceCtorEq, freshP, litsP, resP, tupV, List.reverse_cons, List.reverse_nil, leH, leB, keepP, liveP, wfB, wfV, killE, killB, kill, St.kill, List.map_cons, List.map_nil, List.take_nil, List.drop_nil, Bool.and_true, Bool.and_self, true_and, and_true, and_self, List.mem_cons, List.not_mem_nil, or_false, false_or, List.length_map, not_false_eq_true, Bool.false_eq_true, Nat.reduceLeDiff, Nat.le_refl, ke, ki, jk, ↓jV, ↓qag, ↓qaj, ↓qak, List.length_map, cx0_bn, cx0_fx, args0, retP_isA]
  rw [List.length_cons] at h
  exact ⟨fun _ => by omega, fun h => h.elim⟩
/-- A copy of arcs. -/
theorem ok42 (arcs : List Arc) (h : arcs.length ≤ 2048) : Ok 42 [.bro 4 (arcs.map Arc.enc)] (IsA (.sl 0 0 arcs.length) [.arr 4 (arcs.map Arc.enc)]) := by
  cases arcs with
  | cons a l => exact ok42c a l h
  | nil =>
    refine ⟨ok42n.1, Fn_ghost ok42n.2 ?_⟩
    rintro r hs (⟨rfl, rfl⟩ | ⟨rfl, rfl⟩)
    · exact ⟨_, _, ⟨rfl, rfl⟩, _, .virt 1 4 (by decide) (.nilE 0 0 rfl (.refl _)), by simp [leS, leE, get, leH, leB, keepP, wfE, wfV, liveP, wfB]⟩
    · exact ⟨_, _, ⟨rfl, rfl⟩, _, .refl _, by simp [leS, leE, get, leH, leB, keepP, wfE, wfV, liveP, wfB]⟩
end Go.Fx.F
namespace Go.Fx.F
open Go Go.Fx Go.Proofs
set_option maxRecDepth 20000
/-! Supplies. -/
def exA (N j : Nat) (x : Int) : List Arc := if 0 < x then [⟨N, j, x, 0⟩] else if x < 0 then [⟨j, (N : Int) + 1, -x, 0⟩] else []
def moreA (N : Nat) (arcs : List Arc) (sup : List Int) : Nat → List Arc
  | 0 => arcs
  | k + 1 => moreA N arcs sup k ++ exA N k (sup.getD k 0)
def sumS (sup : List Int) : Nat → Int
  | 0 => 0
  | k + 1 => sumS sup k + sup.getD k 0
def giveS (sup : List Int) : Nat → Int
  | 0 => 0
  | k + 1 => giveS sup k + (if 0 < sup.getD k 0 then sup.getD k 0 else 0)
theorem more_len (N : Nat) (arcs : List Arc) (sup : List Int) : ∀ k, arcs.length ≤ (moreA N arcs sup k).length ∧ (moreA N arcs sup k).length ≤ arcs.length + k
  | 0 => ⟨Nat.le_refl _, Nat.le_refl _⟩
  | k + 1 => by
    have := more_len N arcs sup k
    simp only [moreA, List.length_append, exA]
    split
    · simp; omega
    · split <;> simp <;> omega
theorem small_in {sup : List Int} (h : sup.any bigB = false) (k : Nat) : -1073741824 ≤ sup.getD k 0 ∧ sup.getD k 0 ≤ 1073741824 := by
  rw [List.any_eq_false] at h
  rw [List.getD_eq_getElem?_getD]
  cases hk : sup[k]? with
  | none => simp
  | some x =>
    have := h x (List.mem_of_getElem? hk)
    simp [bigB] at this
    simp
    omega
theorem sumS_bound {sup : List Int} (h : sup.any bigB = false) : ∀ k : Nat, -((k : Int) * 1073741824) ≤ sumS sup k ∧ sumS sup k ≤ (k : Int) * 1073741824
  | 0 => by simp [sumS]
  | k + 1 => by
    have h1 := sumS_bound h k
    have h2 := small_in h k
    simp only [sumS]; omega
theorem giveS_bound {sup : List Int} (h : sup.any bigB = false) : ∀ k : Nat, 0 ≤ giveS sup k ∧ giveS sup k ≤ (k : Int) * 1073741824
  | 0 => by simp [giveS]
  | k + 1 => by
    have h1 := giveS_bound h k
    have h2 := small_in h k
    simp only [giveS]; split <;> omega
theorem more_val {N : Nat} {arcs : List Arc} (hV : Val N arcs) {sup : List Int} (h : sup.any bigB = false) (hN : N + 2 ≤ 256) (hL : arcs.length + N ≤ 2048) : ∀ k, k ≤ N → Val (N + 2) (moreA N arcs sup k)
  | 0, _ => ⟨⟨by omega, hN⟩, by simp only [moreA]; omega, fun a ha => by
    have := hV.ha a ha
    refine ⟨⟨by omega, by omega, this.1.2.2⟩, this.2⟩⟩
  | k + 1, hk => by
    have ih := more_val hV h hN hL k (by omega)
    have hl := more_len N arcs sup (k + 1)
    refine ⟨⟨by omega, hN⟩, by omega, fun a ha => ?_⟩
    simp only [moreA, List.mem_append] at ha
    rcases ha with ha | ha
    · exact ih.ha a ha
    · have hs := small_in h k
      unfold exA at ha
      split at ha
      · rw [List.mem_singleton] at ha
        subst ha
        simp only
        refine ⟨⟨by omega, by omega, by omega⟩, by omega⟩
      · split at ha
        · rw [List.mem_singleton] at ha
          subst ha
          simp only
          refine ⟨⟨by omega, by omega, by omega⟩, by omega⟩
        · simp at ha
/-- What Serve finds: a flow, a cut, an error. -/
noncomputable def serveR (N : Nat) (arcs : List Arc) (sup r : List Int) : List Int × List Bool × Int :=
  if (sup.length : Int) ≠ N ∨ sup.any bigB = true then ([], [], 1)
  else if sumS sup N ≠ 0 then ([], List.replicate N true, 102)
  else if valTo (moreA N arcs sup N) N r (moreA N arcs sup N).length < giveS sup N then ([], (cutOf (moreA N arcs sup N) (N + 2) N r).take N, 102)
  else (r.take arcs.length, [], 0)
def resV (x : List Int × List Bool × Int) : V := .tup [rli x.1, rlb x.2.1, .i x.2.2]
def moreH (N : Nat) (arcs M : List Arc) : List Blk := [.var [.i N, .bro 4 (arcs.map Arc.enc)], .var [.i ((N : Int) + 2), .sl 2 0 M.length], .arr 4 (M.map Arc.enc)]
def pat19 (N : Nat) (arcs : List Arc) (sup : List Int) (k : Nat) : St :=
  ⟨[(32, .i k), (31, .i sup.length), (30, .bro 1 (sup.map encI)), (9, .i (giveS sup k)), (8, .i (sumS sup k)), (7, .ptr 1 0 0), (2, .ptr 0 0 0), (1, .bro 1 (sup.map encI))], moreH N arcs (moreA N arcs sup k), 0⟩
theorem body19 (N : Nat) (arcs : List Arc) (sup : List Int) (hN : N ≤ 30) (hL : arcs.length ≤ 100) (hl : sup.length = N) (hs : sup.any bigB = false) {RR : St → Prop} {X : Nat → St → Prop}
    (hX : ∀ b y, X 0 ⟨(33, y) :: (pat19 N arcs sup N).e, (pat19 N arcs sup N).h, b⟩) (k : Nat) (hk : k ≤ N) :
    aw cx0 c19l0 (fun s' => ∃ g', (g' ≤ N ∧ N - g' < N - k) ∧ leS cx0.fx s' (pat19 N arcs sup g')) X RR (pat19 N arcs sup k) := by
  have hml := more_len N arcs sup k
  have hsb := sumS_bound hs k
  have hgb := giveS_bound hs k
  have hsm := small_in hs k
  unfold c19l0 pat19 moreH
  simp -implicitDefEqProofs only [qE, qF, qI, qJ, qK, qM, qO, qP, qR, qV, qW, qX, qY, qZ, ze, zk, zp, zr, zI, zJ, zK, zL, zO, ofConst, cells?, List.length_nil, List.length_cons, List.set_cons_zero, splice, zP, List.getD_eq_getElem?_getD, List.getElem?_cons_zero, ↓reduceIte, Nat.reduceEqDiff, Option.getD_some, zQ, zS, List.nil_append, List.cons_append, List.append_nil, Nat.zero_add, Nat.reduceAdd, Nat.add_zero, reduceCtorEq, freshP, buildP, litsP, zY, leE, leH, leB, leV, leVs, keepP, liveP, wfE, wfB, wfV, wfL, killE, killB, kill, kills, St.kill, List.map_cons, List.map_nil, List.drop_zero, List.take_zero, List.take_nil, List.drop_nil, List.all_cons, List.all_nil, isD, isC, Bool.and_true, Bool.and_self, true_and, and_true, and_self, V.v.injEq, Value.int.injEq, Value.bool.injEq, List.mem_cons, List.not_mem_nil, or_false, false_or, List.length_append, List.length_map, not_false_eq_true, Nat.reduceLT, Nat.reduceLeDiff, Nat.le_refl, lg0, zZ, ka, kc, ke, lg1, kf, kg, kh, ki, lg2, kj, kk, jk, ↓jl, ↓jn, ↓jo, ↓jp, ↓jt, ↓jv, ↓jx, ↓jA, ↓jE, ↓jS, ↓jT, ↓qaj, ↓qak, ↓qaF, ↓qaN, ↓qaP, List.length_map, List.getElem_map, encI_0, Int.toNat_natCast, cx0_bn, cx0_fx]
  simp only [br, decide_eq_true_eq, decide_eq_false_iff_not]
  refine ⟨fun hc => ?_, fun hc => ?_⟩
  · have hkl : k < sup.length := by omega
    have hg : sup.getD k 0 = sup[k] := by rw [List.getD_eq_getElem?_getD, List.getElem?_eq_getElem hkl]; rfl
    rw [hg] at hsm
    have hs1 : sumS sup (k + 1) = sumS sup k + sup[k] := by simp only [sumS, hg]
    refine ⟨⟨by omega, by omega⟩, by omega, ⟨by simp only [lo]; omega, by simp only [hi]; omega⟩, fun hp => ?_, fun hp => ⟨fun hq => ?_, fun hq => ?_⟩⟩
    · have hg1 : giveS sup (k + 1) = giveS sup k + sup[k] := by simp only [giveS, hg]; rw [if_pos hp]
      have hm1 : moreA N arcs sup (k + 1) = moreA N arcs sup k ++ [⟨N, k, sup[k], 0⟩] := by simp only [moreA, exA, hg]; rw [if_pos hp]
      refine ⟨by omega, ⟨by simp only [lo]; omega, by simp only [hi]; omega⟩, ⟨by simp only [lo]; omega, by simp only [hi]; omega⟩, k + 1, ⟨by omega, by omega⟩, ⟨by omega, hg1.symm, hs1.symm⟩, by rw [hm1]; simp, ?_⟩
      rw [hm1, List.take_of_length_le (by simp), List.map_append]
      rfl
    · have hg1 : giveS sup (k + 1) = giveS sup k := by simp only [giveS, hg]; rw [if_neg hp]; omega
      have hm1 : moreA N arcs sup (k + 1) = moreA N arcs sup k ++ [⟨k, (N : Int) + 1, -sup[k], 0⟩] := by simp only [moreA, exA, hg]; rw [if_neg hp, if_pos hq]
      have hwr : IntKind.wrap .i64 (-sup[k]) = -sup[k] := wrap_in .i64 _ (by simp only [lo, hi]; omega)
      refine ⟨⟨by simp only [lo]; omega, by simp only [hi]; omega⟩, by omega, ⟨by simp only [lo]; omega, by simp only [hi]; omega⟩, k + 1, ⟨by omega, by omega⟩, ⟨by omega, hg1.symm, hs1.symm⟩, by rw [hm1]; simp, ?_⟩
      rw [hm1, hwr, List.take_of_length_le (by simp), List.map_append]
      rfl
    · have hg1 : giveS sup (k + 1) = giveS sup k := by simp only [giveS, hg]; rw [if_neg hp]; omega
      have hm1 : moreA N arcs sup (k + 1) = moreA N arcs sup k := by simp only [moreA, exA, hg]; rw [if_neg hp, if_neg hq]; simp
      refine ⟨⟨by simp only [lo]; omega, by simp only [hi]; omega⟩, k + 1, ⟨by omega, by omega⟩, ⟨by omega, hg1.symm, hs1.symm⟩, ?_⟩
      rw [hm1]
      trivial
  · have : k = N := by omega
    subst this
    have := hX 3 (.b (decide ((k : Int) < sup.length)))
    unfold pat19 moreH at this
    rw [← hl] at this ⊢
    exact this
theorem ok19 (N : Nat) (arcs : List Arc) (sup r : List Int) (hV : Val N arcs) (hN : N ≤ 30) (hL : arcs.length ≤ 100) (hr : sup.length = N → sup.any bigB = false → Grt (N + 2) (moreA N arcs sup N) N ((N : Int) + 1) r) :
    Ok 19 [net N arcs, li sup] (Is (resV (serveR N arcs sup r))) := by
  have hN1 := hV.hn
  refine ⟨rlF_callable lw19, Fn_give (R := fun q hs => wk (resV (serveR N arcs sup r)) (gvV (fun _ => true) hs q)) ?_ fun _ _ h => h⟩
  refine (ok_of lw19 (by simp) ?_).2
  unfold c19
  simp -implicitDefEqProofs only [qF, qI, qJ, qN, qO, qP, qQ, qR, qS, qT, qV, qX, qZ, zb, zD, zI, zK, zL, zM, zO, ofConst, cells?, List.length_nil, List.length_cons, List.set_cons_zero, zP, List.getD_eq_getElem?_getD, List.getElem?_cons_zero, ↓reduceIte, Nat.reduceEqDiff, Option.getD_some, zQ, zS, Bool.not_false, ↓zT, ↓zU, zV, List.nil_append, List.append_nil, Nat.zero_add, Nat.add_zero, reduceCtorEq, freshP, List.map_cons, List.map_nil, true_and, List.length_map, Bool.false_eq_true, ke, jk, ↓jl, ↓jn, ↓jp, ↓jt, ↓jA, ↓jJ, ↓qaM, List.length_map, args0, net, li]
  intro hlm
  by_cases hl : (sup.length : Int) = N
  · have hln : ((sup.length : Int) != N) = false := by simp [hl]
    have hl2 : sup.length = N := by omega
    simp -implicitDefEqProofs only [↓zU, hln]
    refine call_is (ok40 sup) ?_ rfl ?_
    · simp [li, lendsOk, lendOk, lends, lend, wkL, wk, wkB, pos]
    cases hb : sup.any bigB with
    | true =>
      simp -implicitDefEqProofs only [qF, qI, qJ, qN, qO, qP, qR, qS, zI, zK, zL, zO, ofConst, List.length_nil, List.length_cons, ↓reduceIte, Nat.reduceEqDiff, zS, ↓zT, ↓zU, List.nil_append, List.cons_append, List.append_nil, Nat.zero_add, resP, tupV, List.reverse_cons, List.reverse_nil, keepP, wfV, wfL, Bool.and_self, true_and, and_self, jk, retP_eq]
      refine ⟨[], ⟨trivial, by simp, trivial⟩, ?_⟩
      simp [serveR, hb, resV, gvV, gvL, wk, wkL, wkR, rli, rlb]
    | false =>
      simp -implicitDefEqProofs only [qc, qe, qw, rdK, qx, qz, qA, qC, qE, qI, qJ, qO, qP, qS, qU, qV, qX, qZ, zD, zI, zK, zL, zO, ofConst, cells?, List.length_nil, List.length_cons, List.set_cons_zero, zP, List.getD_eq_getElem?_getD, List.getElem?_cons_zero, ↓reduceIte, Nat.reduceEqDiff, Option.getD_some, zQ, zS, ↓zU, List.nil_append, List.cons_append, Nat.zero_add, Nat.add_zero, freshP, List.map_cons, List.map_nil, Bool.and_true, true_and, and_true, lg0, zZ, ke, jk, ↓jl, ↓jn, ↓jp, ↓jt, ↓jA, ↓qaF, cx0_fx]
      refine ⟨⟨by simp only [lo]; omega, by simp only [hi]; omega⟩, ?_, ?_⟩
      all_goals
        refine call_isA [.bro 4 (arcs.map Arc.enc)] _ (.sl 2 0 arcs.length) _ [.arr 4 (arcs.map Arc.enc)] (ok42 arcs (by omega)) ?_ rfl rfl ?_
        · simp [lendsOk, lendOk, lends, lend, wkL, wk, wkB, pos]
        simp -implicitDefEqProofs only [qa, qp, qy, qz, qA, qC, qF, qI, qK, qL, qO, qP, qR, qU, qW, zb, zk, zI, zJ, zK, zL, zO, ofConst, cells?, List.length_nil, List.length_cons, List.set_cons_zero, splice, zP, List.getD_eq_getElem?_getD, List.getElem?_cons_zero, ↓reduceIte, Nat.reduceEqDiff, Option.getD_some, List.nil_append, List.cons_append, List.append_nil, Nat.zero_add, Nat.reduceAdd, Nat.add_zero, reduceCtorEq, freshP, buildP, List.map_cons, List.map_nil, List.drop_zero, List.take_zero, List.drop_nil, List.all_cons, List.all_nil, isC, Bool.and_true, Bool.and_self, true_and, and_true, and_self, List.not_mem_nil, List.length_append, List.length_map, not_false_eq_true, Bool.false_eq_true, Nat.reduceLeDiff, Nat.le_refl, lg0, zZ, ka, kc, kg, jk, ↓jl, ↓jv, ↓jx, ↓jJ, List.length_map, cx0_fx]
        intro hlm2
        refine loopP_intro (pat19 N arcs sup) (fun k => k ≤ N) (fun k => N - k) 0 (Nat.zero_le _) ?_ (body19 N arcs sup hN hL hl2 hb ?_)
        · unfold pat19 moreH
          simp -implicitDefEqProofs only [zO, List.getElem?_cons_zero, ↓reduceIte, Nat.reduceEqDiff, reduceCtorEq, zY, leE, leH, leB, leV, leVs, keepP, liveP, wfE, wfB, wfV, wfL, Bool.and_self, and_self, lg0, lg1, leVs, leV, Int.natCast_zero, giveS, sumS, moreA]
        intro b y
        unfold pat19 moreH
        have hml := more_len N arcs sup N
        have hsb := sumS_bound hb N
        have hgb := giveS_bound hb N
        have hVm := more_val hV hb (by omega) (by omega) N (Nat.le_refl _)
        have hr := hr hl2 hb
        by_cases hsum : sumS sup N = 0
        · have hs0 : (sumS sup N != 0) = false := by simp [hsum]
          simp -implicitDefEqProofs only [qE, qF, qI, qJ, qO, qP, qR, qV, qX, qZ, zp, zD, zI, zK, zL, zO, ofConst, cells?, List.length_nil, List.length_cons, List.set_cons_zero, zP, List.getD_eq_getElem?_getD, List.getElem?_cons_zero, ↓reduceIte, Nat.reduceEqDiff, Option.getD_some, zQ, zS, ↓zU, List.nil_append, List.cons_append, List.append_nil, Nat.zero_add, Nat.reduceAdd, Nat.add_zero, freshP, litsP, List.map_cons, List.map_nil, List.drop_zero, List.take_nil, List.all_cons, List.all_nil, isD, Bool.and_true, Bool.and_self, true_and, and_true, and_self, Nat.reduceLT, Nat.le_refl, lg0, zZ, kc, ke, lg1, kf, kh, lg2, kj, jk, ↓jl, ↓jn, ↓jp, ↓jt, ↓ju, ↓jA, ↓qaF, ↓qaM, hs0]
          refine ⟨⟨by simp only [lo]; omega, by simp only [hi]; omega⟩, ?_⟩
          have hcast : (((N + 2 : Nat) : Int)) = (N : Int) + 2 := by omega
          have e36 := ok36d (N + 2) (moreA N arcs sup N) N ((N : Int) + 1) r hVm (by omega) (by omega) (by omega) hr.run hr.len
          rw [hcast] at e36
          refine call_is e36 ?_ rfl ?_
          · simp [net, lendsOk, lendOk, lends, lend, wkL, wk, wkB, pos, blk]
            exact List.take_of_length_le (by simp)
          simp -implicitDefEqProofs only [qF, qI, qO, qP, qR, qV, qX, zD, zE, zI, zK, zO, List.length_nil, List.length_cons, zP, List.getD_eq_getElem?_getD, List.getElem?_cons_zero, ↓reduceIte, Nat.reduceEqDiff, Option.getD_some, List.append_nil, Nat.zero_add, Nat.reduceAdd, Nat.add_zero, List.map_cons, List.map_nil, List.drop_zero, List.take_nil, true_and, Nat.le_refl, lg0, kc, kh, jk, ↓jl, ↓jn, ↓jp, ↓jt, ↓ju, ↓jA, ↓jN, rli, rlb]
          have e15 := ok15 (N + 2) N (moreA N arcs sup N) r hr.len (by omega) (by omega) (hVm.flow hr.len hr.pos) (fun a ha => (hVm.ha a ha).1) (by omega)
          rw [hcast] at e15
          refine call_is e15 ?_ rfl ?_
          · simp [net, li, lendsOk, lendOk, lends, lend, wkL, wk, wkB, pos, blk]
            exact List.take_of_length_le (by simp)
          simp -implicitDefEqProofs only [qE, qF, qH, qI, qJ, qN, qO, qP, qR, qV, qX, qZ, zb, zj, zI, zK, zL, zO, ofConst, List.length_nil, List.length_cons, zP, List.getD_eq_getElem?_getD, List.getElem?_cons_zero, ↓reduceIte, Nat.reduceEqDiff, Option.getD_some, zQ, zS, List.append_nil, Nat.zero_add, Nat.reduceAdd, Nat.add_zero, Option.map_some, Option.map_none, slcOk, Option.getD_none, true_and, List.length_map, lg0, jk, ↓jl, ↓jn, ↓jp, ↓jt, ↓jA, ↓jJ, ↓jY, ↓jZ, ↓qab, ↓qaN, List.length_map, Int.toNat_natCast]
          simp only [br, decide_eq_true_eq, decide_eq_false_iff_not]
          refine ⟨fun hlt => ?_, fun hlt => ?_⟩
          · refine ⟨⟨⟨by omega, by omega⟩, by rw [cutOf_len]; omega, by omega⟩, ?_⟩
            simp -implicitDefEqProofs only [zO, ↓reduceIte, Nat.reduceEqDiff, List.nil_append, List.cons_append, resP, tupV, List.reverse_cons, List.reverse_nil, keepP, wfV, wfL, Bool.and_self, true_and, and_self, retP_eq]
            refine ⟨[], ⟨trivial, by simp, trivial⟩, ?_⟩
            have h00 : Int.toNat 0 = 0 := rfl
            simp [serveR, hb, hl, hsum, hlt, resV, gvV, gvL, wk, wkL, wkR, rli, rlb, h00]
          · intro hla
            refine ⟨⟨⟨by omega, by omega⟩, by have := hr.len; omega, by omega⟩, ?_⟩
            simp -implicitDefEqProofs only [zO, ↓reduceIte, Nat.reduceEqDiff, List.nil_append, List.cons_append, resP, tupV, List.reverse_cons, List.reverse_nil, keepP, wfV, wfL, Bool.and_self, true_and, and_self, retP_eq]
            refine ⟨[], ⟨trivial, by simp, trivial⟩, ?_⟩
            have h00 : Int.toNat 0 = 0 := rfl
            simp [serveR, hb, hl, hsum, hlt, resV, gvV, gvL, wk, wkL, wkR, rli, rlb, h00]
        · have hs0 : (sumS sup N != 0) = true := by simp [hsum]
          simp -implicitDefEqProofs only [qE, qF, qI, qJ, qO, qP, qR, qV, qX, qZ, zp, zD, zI, zK, zL, zO, ofConst, cells?, List.length_nil, List.length_cons, List.set_cons_zero, zP, List.getD_eq_getElem?_getD, List.getElem?_cons_zero, ↓reduceIte, Nat.reduceEqDiff, Option.getD_some, zQ, zS, ↓zT, List.nil_append, List.cons_append, List.append_nil, Nat.zero_add, Nat.reduceAdd, Nat.add_zero, freshP, litsP, List.map_cons, List.map_nil, List.drop_zero, List.take_nil, List.all_cons, List.all_nil, isD, Bool.and_true, Bool.and_self, true_and, and_true, and_self, Nat.reduceLT, Nat.le_refl, lg0, zZ, kc, ke, lg1, kf, kh, lg2, kj, jk, ↓jl, ↓jn, ↓jp, ↓jt, ↓ju, ↓jA, ↓qaF, ↓qaM, hs0]
          refine call_is (ok43 N (by omega) (by omega)) ?_ rfl ?_
          · simp [lb, lendsOk, lendOk, lends, lend, wkL, wk, wkB, pos, blk]
            rfl
          simp -implicitDefEqProofs only [qN, qO, qP, qR, zI, zK, zL, zO, ofConst, ↓reduceIte, Nat.reduceEqDiff, List.nil_append, List.cons_append, resP, tupV, List.reverse_cons, List.reverse_nil, keepP, wfV, wfL, Bool.and_self, true_and, and_self, retP_eq]
          refine ⟨[], ⟨trivial, by simp, trivial⟩, ?_⟩
          simp [serveR, hb, hl, hsum, resV, gvV, gvL, wk, wkL, wkR, rli, rlb]
  · have hln : ((sup.length : Int) != N) = true := by simp [hl]
    simp -implicitDefEqProofs only [zO, ↓reduceIte, Nat.reduceEqDiff, ↓zT, List.nil_append, List.cons_append, resP, tupV, List.reverse_cons, List.reverse_nil, keepP, wfV, wfL, Bool.and_self, true_and, and_self, hln, retP_eq]
    refine ⟨[], ⟨trivial, by simp, trivial⟩, ?_⟩
    simp [serveR, hl, resV, gvV, gvL, wk, wkL, wkR, rli, rlb]
end Go.Fx.F
namespace Go.Fx.F
open Go Go.Fx Go.Proofs
set_option maxRecDepth 20000
theorem ok38d (N : Nat) (arcs : List Arc) (f t : Int) (r : List Int) (hV : Val N arcs) (hf : 0 ≤ f ∧ f < N) (ht : 0 ≤ t ∧ t < N) (hft : f ≠ t) (hr : Run arcs N f t (List.replicate arcs.length 0) r) (hl : r.length = arcs.length) :
    Ok 38 [net N arcs, .i f, .i t] (Is (.agg [rli r, rlb (cutOf arcs N f r), .i 0])) := by
  cases arcs with
  | nil =>
    have := run_nil hft hf ht hr
    subst this
    refine ok_give (ok38z N f t hV hf ht hft) ?_
    have e1 : List.take N ((cutOf [] N f []).map encB) = (cutOf [] N f []).map encB := take_encB cutOf_len
    simp [gvV, gvL, blk, wk, wkL, wkR, rli, rlb, e1, cutOf_len]
  | cons a l =>
    refine ok_give (ok38 N l.length (a :: l) f t r rfl hV hf ht hft hr) ?_
    have e1 : List.take N ((cutOf (a :: l) N f r).map encB) = (cutOf (a :: l) N f r).map encB := take_encB cutOf_len
    have e2 : List.take (a :: l).length (r.map encI) = r.map encI := take_enc hl
    simp only [gvV, gvL, blk, List.getD_eq_getElem?_getD, lg0, lg1, lg2, lg3, lg4, lg5, lg6, lg7, lg8, lg9, kV, wa, wg, wo, wu, wz, wE, List.getElem?_cons_zero, Option.getD_some, if_true, List.drop_zero, e1, e2, Nat.zero_add]
    simp [wk, wkL, wkR, rli, rlb, hl, cutOf_len]
def trues (N k : Nat) : List Bool := List.replicate k true ++ List.replicate (N - k) false
def pat20a (N : Nat) (arcs : List Arc) (sup : List Int) (k : Nat) : St :=
  ⟨[(8, .i k), (7, .sl 2 0 N), (6, .i (sumS sup k)), (4, .ptr 1 0 0), (2, .ptr 0 0 0), (1, .bro 1 (sup.map encI))], [.var [.i N, .bro 4 (arcs.map Arc.enc)], .var [.nil, .nil, .i 0], .arr 1 ((trues N k).map encB)], 0⟩
theorem trues_set {N k : Nat} (h : k < N) : (trues N k).set k true = trues N (k + 1) := by
  unfold trues
  rw [List.set_append_right _ _ (by simp), List.length_replicate, Nat.sub_self, show N - k = (N - (k + 1)) + 1 by omega, List.replicate_succ (n := N - (k + 1)), List.set_cons_zero, List.replicate_succ' (n := k), List.append_assoc]
  rfl
theorem trues_len {N k : Nat} (h : k ≤ N) : (trues N k).length = N := by simp [trues]; omega
theorem trues_all {N : Nat} : trues N N = List.replicate N true := by simp [trues]
theorem body20a (N : Nat) (arcs : List Arc) (sup : List Int) (hN : N ≤ 30) (hl : sup.length = N) (hs : sup.any bigB = false) {RR : St → Prop} {X : Nat → St → Prop}
    (hX : ∀ b x y z w, X 0 ⟨(25, x) :: (24, y) :: (23, z) :: (22, w) :: (pat20a N arcs sup N).e, (pat20a N arcs sup N).h, b⟩) (k : Nat) (hk : k ≤ N) :
    aw cx0 c20l0 (fun s' => ∃ g', (g' ≤ N ∧ N - g' < N - k) ∧ leS cx0.fx s' (pat20a N arcs sup g')) X RR (pat20a N arcs sup k) := by
  have hsb := sumS_bound hs k
  have hsm := small_in hs k
  unfold c20l0 pat20a
  simp -implicitDefEqProofs only [qE, qF, qI, qJ, qK, qM, qO, qP, qR, qV, qW, qX, qY, qZ, zI, zJ, zK, zL, zO, ofConst, cells?, List.length_nil, List.length_cons, List.set_cons_zero, splice, zP, List.getD_eq_getElem?_getD, List.getElem?_cons_zero, ↓reduceIte, Nat.reduceEqDiff, Option.getD_some, zQ, arrSz, zS, List.nil_append, List.append_nil, Nat.zero_add, Nat.reduceAdd, Nat.add_zero, zY, leE, leH, leB, leV, leVs, keepP, liveP, wfE, wfB, wfV, wfL, List.take_zero, List.all_cons, List.all_nil, isD, isC, Bool.and_true, Bool.and_self, true_and, and_true, and_self, V.v.injEq, Value.int.injEq, Value.bool.injEq, List.not_mem_nil, List.length_map, not_false_eq_true, Nat.le_refl, lg0, zZ, lg1, kf, jk, ↓jl, ↓jn, ↓jo, ↓jp, ↓jt, ↓jv, ↓jy, ↓jA, ↓jC, ↓jE, ↓qaF, ↓qaN, List.length_map, List.getElem_map, encI_0, Int.toNat_natCast, cx0_bn, cx0_fx, encB_drop, mapB_set]
  simp only [br, decide_eq_true_eq, decide_eq_false_iff_not]
  refine ⟨fun hc => ?_, fun hc => ?_⟩
  · have hkl : k < sup.length := by omega
    have hg : sup.getD k 0 = sup[k] := by rw [List.getD_eq_getElem?_getD, List.getElem?_eq_getElem hkl]; rfl
    rw [hg] at hsm
    have hs1 : sumS sup (k + 1) = sumS sup k + sup[k] := by simp only [sumS, hg]
    refine ⟨⟨by omega, by omega⟩, by omega, ⟨by simp only [lo]; omega, by simp only [hi]; omega⟩, ⟨by omega, by omega⟩, by rw [trues_len hk]; omega, ⟨by simp only [lo]; omega, by simp only [hi]; omega⟩, k + 1, ⟨by omega, by omega⟩, ⟨by omega, hs1.symm⟩, ?_⟩
    rw [trues_set (by omega)]
  · have : k = N := by omega
    subst this
    have := hX 3 (.b (decide ((k : Int) < k))) (.i k) (.ptr 0 0 0) (.i k)
    unfold pat20a at this
    exact this
def moreH2 (N : Nat) (arcs M : List Arc) : List Blk := [.var [.i N, .bro 4 (arcs.map Arc.enc)], .var [.nil, .nil, .i 0], .dead, .arr 4 (M.map Arc.enc), .dead, .var [.i ((N : Int) + 2), .sl 3 0 M.length]]
def pat20b (N : Nat) (arcs : List Arc) (sup : List Int) (k : Nat) : St :=
  ⟨[(11, .i k), (10, .i (giveS sup k)), (9, .ptr 5 0 0), (4, .ptr 1 0 0), (2, .ptr 0 0 0), (1, .bro 1 (sup.map encI))], moreH2 N arcs (moreA N arcs sup k), 0⟩
theorem body20b (N : Nat) (arcs : List Arc) (sup : List Int) (hN : N ≤ 30) (hL : arcs.length ≤ 100) (hl : sup.length = N) (hs : sup.any bigB = false) {RR : St → Prop} {X : Nat → St → Prop}
    (hX : ∀ b x y z w, X 2 ⟨(52, x) :: (51, y) :: (50, z) :: (49, w) :: (pat20b N arcs sup N).e, (pat20b N arcs sup N).h, b⟩) (k : Nat) (hk : k ≤ N) :
    aw cx0 c20l1 (fun s' => ∃ g', (g' ≤ N ∧ N - g' < N - k) ∧ leS cx0.fx s' (pat20b N arcs sup g')) X RR (pat20b N arcs sup k) := by
  have hml := more_len N arcs sup k
  have hgb := giveS_bound hs k
  have hsm := small_in hs k
  unfold c20l1 pat20b moreH2
  simp -implicitDefEqProofs only [qa, qc, qd, qe, qj, qp, qw, rdK, qx, qy, qz, qA, qC, qE, qF, qI, qJ, qK, qM, qO, qP, qR, qV, qW, qX, qY, qZ, ze, zk, zp, zr, zI, zJ, zK, zL, zO, ofConst, cells?, List.length_nil, List.length_cons, List.set_cons_zero, splice, zP, List.getD_eq_getElem?_getD, List.getElem?_cons_zero, ↓reduceIte, Nat.reduceEqDiff, Option.getD_some, zQ, zS, List.nil_append, List.cons_append, List.append_nil, Nat.zero_add, Nat.reduceAdd, Nat.add_zero, reduceCtorEq, freshP, buildP, litsP, zY, leE, leH, leB, leV, leVs, keepP, liveP, wfE, wfB, wfV, wfL, killE, killB, kill, kills, St.kill, List.map_cons, List.map_nil, List.drop_zero, List.take_zero, List.take_nil, List.drop_nil, List.all_cons, List.all_nil, isD, isC, Bool.and_true, Bool.and_self, true_and, and_true, and_self, V.v.injEq, Value.int.injEq, Value.bool.injEq, List.mem_cons, List.not_mem_nil, or_false, false_or, List.length_append, List.length_map, not_false_eq_true, Bool.false_eq_true, Nat.reduceLT, Nat.reduceLeDiff, Nat.le_refl, lg0, zZ, ka, kc, ke, lg1, kf, kg, kh, ki, lg2, kj, kk, lg3, kp, lg4, kx, lg5, kB, lg6, kF, lg7, kJ, jk, ↓jl, ↓jn, ↓jo, ↓jp, ↓jt, ↓jv, ↓jx, ↓jA, ↓jE, ↓jS, ↓jT, ↓qaj, ↓qak, ↓qaF, ↓qaN, ↓qaP, List.length_map, List.getElem_map, encI_0, Int.toNat_natCast, cx0_fx]
  simp only [br, decide_eq_true_eq, decide_eq_false_iff_not]
  refine ⟨fun hc => ?_, fun hc => ?_⟩
  · have hkl : k < sup.length := by omega
    have hg : sup.getD k 0 = sup[k] := by rw [List.getD_eq_getElem?_getD, List.getElem?_eq_getElem hkl]; rfl
    rw [hg] at hsm
    refine ⟨⟨by omega, by omega⟩, by omega, fun hp => ?_, fun hp => ?_⟩
    · have hg1 : giveS sup (k + 1) = giveS sup k + sup[k] := by simp only [giveS, hg]; rw [if_pos hp]
      have hm1 : moreA N arcs sup (k + 1) = moreA N arcs sup k ++ [⟨N, k, sup[k], 0⟩] := by simp only [moreA, exA, hg]; rw [if_pos hp]
      refine ⟨⟨by omega, by omega⟩, by omega, by omega, ⟨by omega, by omega⟩, by omega, ⟨by simp only [lo]; omega, by simp only [hi]; omega⟩, ⟨by omega, by omega⟩, by omega, fun hq => by omega, fun hq => ⟨⟨by simp only [lo]; omega, by simp only [hi]; omega⟩, k + 1, ⟨by omega, by omega⟩, ⟨by omega, hg1.symm⟩, ?_⟩⟩
      rw [hm1, List.take_of_length_le (by simp), List.map_append]
      refine ⟨rfl, ?_⟩
      simp
    · refine ⟨⟨by omega, by omega⟩, by omega, fun hq => ?_, fun hq => ?_⟩
      · have hg1 : giveS sup (k + 1) = giveS sup k := by simp only [giveS, hg]; rw [if_neg hp]; omega
        have hm1 : moreA N arcs sup (k + 1) = moreA N arcs sup k ++ [⟨k, (N : Int) + 1, -sup[k], 0⟩] := by simp only [moreA, exA, hg]; rw [if_neg hp, if_pos hq]
        have hwr : IntKind.wrap .i64 (-sup[k]) = -sup[k] := wrap_in .i64 _ (by simp only [lo, hi]; omega)
        refine ⟨⟨by simp only [lo]; omega, by simp only [hi]; omega⟩, ⟨by omega, by omega⟩, by omega, by omega, ⟨by simp only [lo]; omega, by simp only [hi]; omega⟩, k + 1, ⟨by omega, by omega⟩, ⟨by omega, hg1.symm⟩, ?_⟩
        rw [hm1, hwr, List.take_of_length_le (by simp), List.map_append]
        refine ⟨rfl, ?_⟩
        simp
      · have hg1 : giveS sup (k + 1) = giveS sup k := by simp only [giveS, hg]; rw [if_neg hp]; omega
        have hm1 : moreA N arcs sup (k + 1) = moreA N arcs sup k := by simp only [moreA, exA, hg]; rw [if_neg hp, if_neg hq]; simp
        refine ⟨⟨by simp only [lo]; omega, by simp only [hi]; omega⟩, k + 1, ⟨by omega, by omega⟩, ⟨by omega, hg1.symm⟩, ?_⟩
        rw [hm1]
        exact ⟨rfl, rfl⟩
  · have : k = N := by omega
    subst this
    have := hX 6 (.b (decide ((k : Int) < k))) (.i k) (.ptr 0 0 0) (.i k)
    unfold pat20b moreH2 at this
    exact this
def resG (x : List Int × List Bool × Int) : V := .agg [rli x.1, rlb x.2.1, .i x.2.2]
theorem ok20 (N : Nat) (arcs : List Arc) (sup r : List Int) (hV : Val N arcs) (hN : N ≤ 30) (hL : arcs.length ≤ 100) (hr : sup.length = N → sup.any bigB = false → Grt (N + 2) (moreA N arcs sup N) N ((N : Int) + 1) r) :
    Ok 20 [net N arcs, li sup] (Is (resG (serveR N arcs sup r))) := by
  have hN1 := hV.hn
  refine ⟨rlF_callable lw20, Fn_give (R := fun q hs => wk (resG (serveR N arcs sup r)) (gvV (fun _ => true) hs q)) ?_ fun _ _ h => h⟩
  refine (ok_of lw20 (by simp) ?_).2
  unfold c20
  simp -implicitDefEqProofs only [qF, qI, qO, qP, qR, qT, qU, qV, zD, zI, zK, zO, ofConst, cells?, List.length_nil, List.length_cons, List.set_cons_zero, zP, List.getD_eq_getElem?_getD, List.getElem?_cons_zero, ↓reduceIte, Nat.reduceEqDiff, Option.getD_some, List.nil_append, List.append_nil, Nat.zero_add, Nat.reduceAdd, Nat.add_zero, reduceCtorEq, freshP, List.map_cons, List.map_nil, List.drop_zero, List.take_nil, true_and, Nat.le_refl, lg0, zZ, kc, ke, kh, ki, jk, ↓jl, ↓jn, ↓jp, ↓ju, args0, net, li]
  refine call_is (ok44 N arcs sup) ?_ rfl ?_
  · simp [net, li, lendsOk, lendOk, lends, lend, wkL, wk, wkB, pos]
  cases hsm : (decide ((sup.length : Int) = N) && !sup.any bigB) with
  | false =>
    have h1 : (sup.length : Int) ≠ N ∨ sup.any bigB = true := by
      by_cases h : (sup.length : Int) = N
      · right
        simpa [h] using hsm
      · exact .inl h
    simp -implicitDefEqProofs only [qF, qI, qJ, qN, qO, qP, qR, qW, zd, zk, zI, zJ, zK, zL, zO, ofConst, cells?, List.length_nil, List.length_cons, List.set_cons_zero, splice, zP, List.getD_eq_getElem?_getD, List.getElem?_cons_zero, ↓reduceIte, Nat.reduceEqDiff, Option.getD_some, zR, zS, Bool.not_false, ↓zT, List.nil_append, List.cons_append, List.append_nil, Nat.zero_add, Nat.reduceAdd, Nat.add_zero, buildP, resP, tupV, List.reverse_cons, List.reverse_nil, keepP, wfV, wfL, List.map_cons, List.map_nil, List.drop_zero, List.take_zero, List.take_nil, List.drop_nil, List.all_cons, List.all_nil, isC, Bool.and_true, Bool.and_self, true_and, and_true, and_self, List.not_mem_nil, List.length_append, not_false_eq_true, Nat.le_refl, lg0, zZ, ka, kc, kg, kh, kk, kn, jk, ↓jl, ↓jn, ↓jp, ↓ju, ↓jv, ↓jx, cx0_bn, retP_eq]
    refine ⟨[], ⟨trivial, by simp, trivial⟩, ?_⟩
    have e : serveR N arcs sup r = ([], [], 1) := by unfold serveR; rw [if_pos h1]
    simp [e, resG, gvV, gvL, wk, wkL, wkR, rli, rlb]
  | true =>
    simp only [Bool.and_eq_true, decide_eq_true_eq, Bool.not_eq_true'] at hsm
    obtain ⟨hl, hb⟩ := hsm
    have hl2 : sup.length = N := by omega
    have hml := more_len N arcs sup N
    have hgb := giveS_bound hb N
    have hVm := more_val hV hb (by omega) (by omega) N (Nat.le_refl _)
    have hr := hr hl2 hb
    simp -implicitDefEqProofs only [qE, qF, qI, qJ, qK, qL, qO, qP, qR, qV, qX, zd, zq, zI, zK, zL, zO, ofConst, List.length_nil, List.length_cons, List.set_cons_zero, zP, List.getD_eq_getElem?_getD, List.getElem?_cons_zero, ↓reduceIte, Nat.reduceEqDiff, Option.getD_some, zQ, zR, zS, Bool.not_true, ↓zU, List.nil_append, List.cons_append, List.append_nil, Nat.zero_add, Nat.reduceAdd, Nat.add_zero, freshP, List.map_cons, List.map_nil, true_and, lg0, zZ, ke, lg1, kf, jk, ↓jl, ↓jn, ↓jp, ↓jt, ↓jA, Int.toNat_natCast, cx0_fx]
    refine ⟨⟨⟨by omega, by omega⟩, by omega, by omega⟩, ?_⟩
    refine loopP_intro (pat20a N arcs sup) (fun k => k ≤ N) (fun k => N - k) 0 (Nat.zero_le _) ?_ (body20a N arcs sup hN hl2 hb ?_)
    · unfold pat20a
      simp -implicitDefEqProofs only [zO, List.getElem?_cons_zero, ↓reduceIte, Nat.reduceEqDiff, List.nil_append, reduceCtorEq, zY, leE, leH, leB, leV, leVs, keepP, liveP, wfE, wfB, wfV, wfL, Bool.and_true, Bool.and_self, true_and, and_true, and_self, lg0, lg1, jk, leVs, leV, Int.natCast_zero, sumS, trues, Nat.sub_zero, List.map_replicate]
      rfl
    intro b x y z w
    unfold pat20a
    by_cases hsum : sumS sup N = 0
    · have hs0 : (sumS sup N != 0) = false := by simp [hsum]
      simp -implicitDefEqProofs only [qc, qe, qp, qw, rdK, qx, qy, qz, qA, qC, qE, qF, qI, qJ, qK, qL, qN, qO, qP, qR, qU, qV, qW, qX, qZ, zk, zp, zr, zI, zJ, zK, zL, zO, ofConst, cells?, List.length_nil, List.length_cons, List.set_cons_zero, splice, zP, List.getD_eq_getElem?_getD, List.getElem?_cons_zero, ↓reduceIte, Nat.reduceEqDiff, Option.getD_some, zQ, zS, ↓zU, List.nil_append, List.cons_append, List.append_nil, Nat.zero_add, Nat.reduceAdd, Nat.add_zero, reduceCtorEq, freshP, buildP, litsP, killE, killB, kill, kills, St.kill, List.map_cons, List.map_nil, List.drop_zero, List.take_zero, List.take_nil, List.drop_nil, List.all_cons, List.all_nil, isC, Bool.and_true, Bool.and_self, true_and, and_true, and_self, List.mem_cons, List.not_mem_nil, or_false, List.length_append, List.length_map, not_false_eq_true, Bool.false_eq_true, Nat.reduceLeDiff, Nat.le_refl, lg0, zZ, ka, kc, ke, lg1, kf, kg, kh, ki, lg2, kj, kk, ko, lg3, kp, lg4, kx, jk, ↓jl, ↓jn, ↓jp, ↓jt, ↓jv, ↓jx, ↓jA, ↓jV, ↓qaj, ↓qak, ↓qaF, ↓qaM, List.length_map, cx0_bn, cx0_fx, hs0]
      refine ⟨⟨by simp only [lo]; omega, by simp only [hi]; omega⟩, ⟨⟨.inr trivial, by omega, ?_⟩, ⟨.inr trivial, by omega, ?_⟩⟩, ⟨.inr trivial, by omega, ?_⟩⟩
      all_goals
        refine loopP_intro (pat20b N arcs sup) (fun k => k ≤ N) (fun k => N - k) 0 (Nat.zero_le _) ?_ (body20b N arcs sup hN hL hl2 hb ?_)
        · unfold pat20b moreH2
          simp -implicitDefEqProofs only [zO, List.getElem?_cons_zero, ↓reduceIte, Nat.reduceEqDiff, zY, leE, leH, leB, leV, leVs, keepP, liveP, wfE, wfB, wfV, wfL, Bool.and_self, and_self, lg0, lg1, lg2, lg3, lg4, leVs, leV, Int.natCast_zero, giveS, moreA]
          first | done | exact ⟨trivial, trivial⟩
        intro b2 x2 y2 z2 w2
        unfold pat20b moreH2
        simp -implicitDefEqProofs only [qF, qI, qP, qV, qX, qZ, zD, zI, zK, zL, zO, ofConst, List.length_nil, List.length_cons, zP, List.getD_eq_getElem?_getD, List.getElem?_cons_zero, ↓reduceIte, Nat.reduceEqDiff, Option.getD_some, zQ, List.nil_append, List.cons_append, Nat.zero_add, Nat.reduceAdd, Nat.add_zero, List.map_cons, List.map_nil, List.drop_zero, List.take_nil, true_and, Nat.le_refl, lg0, kc, ke, lg1, kh, lg2, lg3, lg4, jk, ↓jl, ↓jn, ↓jp, ↓jt, ↓ju, ↓jA, ↓qaF]
        refine ⟨⟨by simp only [lo]; omega, by simp only [hi]; omega⟩, ?_⟩
        have hcast : (((N + 2 : Nat) : Int)) = (N : Int) + 2 := by omega
        have e38 := ok38d (N + 2) (moreA N arcs sup N) N ((N : Int) + 1) r hVm (by omega) (by omega) (by omega) hr.run hr.len
        rw [hcast] at e38
        refine call_is e38 ?_ rfl ?_
        · simp [net, lendsOk, lendOk, lends, lend, wkL, wk, wkB, pos, blk]
          exact List.take_of_length_le (by simp)
        simp -implicitDefEqProofs only [qF, qI, qO, qP, qU, qV, qW, qX, zD, zI, zJ, zK, zO, ofConst, cells?, List.length_nil, List.length_cons, List.set_cons_zero, splice, zP, List.getD_eq_getElem?_getD, List.getElem?_cons_zero, ↓reduceIte, Nat.reduceEqDiff, Option.getD_some, List.nil_append, List.cons_append, List.append_nil, Nat.zero_add, Nat.reduceAdd, Nat.add_zero, freshP, List.map_cons, List.map_nil, List.drop_zero, List.take_zero, List.take_nil, List.drop_nil, List.all_cons, List.all_nil, isC, Bool.and_true, Bool.and_self, true_and, and_true, and_self, List.not_mem_nil, not_false_eq_true, Nat.le_refl, lg0, zZ, ka, kc, lg1, kf, kg, kh, lg2, kj, kk, lg3, kp, lg4, kx, lg5, kB, jk, ↓jl, ↓jn, ↓jp, ↓jt, ↓ju, ↓jv, ↓jx, ↓jA, cx0_bn, rli, rlb]
        have e30 := ok30 ((N : Int) + 2) N (moreA N arcs sup N) r hr.len (by omega) (hVm.flow hr.len hr.pos)
        refine call_is e30 ?_ rfl ?_
        · simp [net, li, lendsOk, lendOk, lends, lend, wkL, wk, wkB, pos, blk]
          exact List.take_of_length_le (by simp)
        simp -implicitDefEqProofs only [qE, qF, qI, qJ, qN, qO, qP, qR, qV, qW, qX, qZ, zb, zj, zk, zI, zJ, zK, zL, zO, ofConst, cells?, List.length_nil, List.length_cons, List.set_cons_zero, splice, zP, List.getD_eq_getElem?_getD, List.getElem?_cons_zero, ↓reduceIte, Nat.reduceEqDiff, Option.getD_some, zQ, zS, List.nil_append, List.cons_append, List.append_nil, Nat.zero_add, Nat.reduceAdd, Nat.add_zero, Option.map_some, Option.map_none, slcOk, Option.getD_none, buildP, List.map_cons, List.map_nil, List.drop_zero, List.take_zero, List.drop_nil, List.all_cons, List.all_nil, isC, Bool.and_true, Bool.and_self, true_and, and_true, and_self, List.not_mem_nil, List.length_append, List.length_map, not_false_eq_true, Nat.reduceLeDiff, Nat.le_refl, lg0, zZ, ka, kc, lg1, kg, kh, lg2, kk, lg3, lg4, lg5, jk, ↓jl, ↓jn, ↓jp, ↓jt, ↓jv, ↓jx, ↓jA, ↓jJ, ↓jY, ↓jZ, ↓qab, ↓qaN, List.length_map, Int.toNat_natCast, cx0_bn]
        simp only [br, decide_eq_true_eq, decide_eq_false_iff_not]
        refine ⟨fun hlt => ?_, fun hlt => ?_⟩
        · refine ⟨⟨⟨by omega, by omega⟩, by rw [cutOf_len]; omega, by omega⟩, ?_⟩
          simp -implicitDefEqProofs only [zO, List.length_nil, List.length_cons, zP, List.getD_eq_getElem?_getD, List.getElem?_cons_zero, ↓reduceIte, Nat.reduceEqDiff, Option.getD_some, List.nil_append, Nat.zero_add, Nat.reduceAdd, resP, tupV, List.reverse_cons, List.reverse_nil, keepP, wfV, wfL, List.drop_zero, List.take_nil, Bool.and_self, true_and, and_self, Nat.le_refl, lg0, kc, kh, kn, ↓jn, ↓jp, ↓ju, retP_eq]
          refine ⟨[], ⟨trivial, by simp, trivial⟩, ?_⟩
          have h00 : Int.toNat 0 = 0 := rfl
          simp [serveR, hb, hl, hsum, hlt, resG, gvV, gvL, wk, wkL, wkR, rli, rlb, h00]
        · intro hla
          refine ⟨⟨⟨by omega, by omega⟩, by have := hr.len; omega, by omega⟩, ?_⟩
          simp -implicitDefEqProofs only [zO, List.length_nil, List.length_cons, zP, List.getD_eq_getElem?_getD, List.getElem?_cons_zero, ↓reduceIte, Nat.reduceEqDiff, Option.getD_some, List.nil_append, Nat.zero_add, Nat.reduceAdd, resP, tupV, List.reverse_cons, List.reverse_nil, keepP, wfV, wfL, List.drop_zero, List.take_nil, Bool.and_self, true_and, and_self, Nat.le_refl, lg0, kc, kh, kn, ↓jn, ↓jp, ↓ju, retP_eq]
          refine ⟨[], ⟨trivial, by simp, trivial⟩, ?_⟩
          have h00 : Int.toNat 0 = 0 := rfl
          simp [serveR, hb, hl, hsum, hlt, resG, gvV, gvL, wk, wkL, wkR, rli, rlb, h00]
    · have hs0 : (sumS sup N != 0) = true := by simp [hsum]
      simp -implicitDefEqProofs only [qc, qe, qp, qw, rdK, qx, qy, qz, qA, qC, qE, qF, qI, qJ, qK, qL, qN, qO, qP, qR, qU, qV, qW, qX, qZ, zk, zp, zr, zI, zJ, zK, zL, zO, ofConst, cells?, List.length_nil, List.length_cons, List.set_cons_zero, splice, zP, List.getD_eq_getElem?_getD, List.getElem?_cons_zero, ↓reduceIte, Nat.reduceEqDiff, Option.getD_some, zQ, zS, ↓zT, List.nil_append, List.cons_append, List.append_nil, Nat.zero_add, Nat.reduceAdd, Nat.add_zero, reduceCtorEq, freshP, buildP, litsP, resP, tupV, List.reverse_cons, List.reverse_nil, keepP, liveP, wfV, wfL, killE, killB, kill, kills, St.kill, List.map_cons, List.map_nil, List.drop_zero, List.take_zero, List.take_nil, List.drop_nil, List.all_cons, List.all_nil, isC, Bool.and_true, Bool.and_self, true_and, and_true, and_self, List.mem_cons, List.not_mem_nil, or_false, List.length_append, List.length_map, not_false_eq_true, Bool.false_eq_true, Nat.reduceLeDiff, Nat.le_refl, lg0, zZ, ka, kc, ke, lg1, kf, kg, kh, ki, lg2, kj, kk, kn, ko, lg3, kp, lg4, kx, jk, ↓jl, ↓jn, ↓jp, ↓jt, ↓ju, ↓jv, ↓jx, ↓jA, ↓jV, ↓qaj, ↓qak, ↓qaF, ↓qaM, List.length_map, cx0_bn, cx0_fx, hs0, retP_eq]
      refine ⟨[.dead, .dead, .arr 1 ((trues N N).map encB)], ⟨by simp [leH, leB], by simp, by simp [wfV, wfL, liveP], by simp [wfB]⟩, ?_⟩
      simp [serveR, hb, hl, hsum, resG, gvV, gvL, wk, wkL, wkR, rli, rlb, blk, trues_all]
end Go.Fx.F
namespace Go.Fx.F
open Go Go.Fx Go.Proofs
set_option maxRecDepth 20000
/-- A greatest flow for the supplies, if there is a use for it. -/
theorem grt_serve {N : Nat} {arcs : List Arc} (hV : Val N arcs) (hN : N ≤ 30) (hL : arcs.length ≤ 100) (sup : List Int) : ∃ r, sup.length = N → sup.any bigB = false → Grt (N + 2) (moreA N arcs sup N) N ((N : Int) + 1) r := by
  by_cases h : sup.length = N ∧ sup.any bigB = false
  · obtain ⟨r, hr⟩ := grt (more_val hV h.2 (by omega) (by omega) N (Nat.le_refl _)) (f := N) (t := (N : Int) + 1) ⟨by omega, by omega, by omega⟩
    exact ⟨r, fun _ _ => hr⟩
  · exact ⟨[], fun h1 h2 => absurd ⟨h1, h2⟩ h⟩
theorem ok5 (n : Int) (arcs : List Arc) (sup : List Int) : Ok 5 [rnet n arcs, rli sup] (Is (.b true)) := by
  refine ok_of lw5 (by simp) ?_
  unfold c5
  simp -implicitDefEqProofs only [qF, qI, qO, qP, qR, qT, qV, zD, zI, zK, zL, zO, ofConst, cells?, List.length_nil, List.length_cons, List.set_cons_zero, zP, List.getD_eq_getElem?_getD, List.getElem?_cons_zero, ↓reduceIte, Nat.reduceEqDiff, Option.getD_some, List.nil_append, List.append_nil, Nat.zero_add, Nat.reduceAdd, Nat.add_zero, freshP, List.map_cons, List.map_nil, List.drop_zero, List.take_nil, true_and, Nat.le_refl, kc, ke, kh, jk, ↓jl, ↓jn, ↓jp, ↓ju, args0, rnet, rli]
  refine call_is (ok9 n arcs 10 30) ?_ rfl ?_
  · simp [net, lendsOk, lendOk, lends, lend, wkL, wk, wkB, pos]
  cases hF : (decide (n ≤ 10 ∧ (arcs.length : Int) ≤ 30) && validB n arcs) with
  | false =>
    simp -implicitDefEqProofs only [qF, qI, qJ, qO, qP, zd, zD, zI, zK, zO, List.length_nil, List.length_cons, ↓reduceIte, zR, zS, Bool.not_false, ↓zT, List.append_nil, Nat.zero_add, List.map_nil, jk]
    refine call_is sanOk ?_ rfl ?_
    · simp [lendsOk, lendOk, lends, lend, wkL, wk, wkB, pos]
    simp -implicitDefEqProofs only [qN, qO, qP, qR, zI, zK, zO, ↓reduceIte, List.nil_append, zX, resP, tupV, List.reverse_cons, List.reverse_nil, wfV, Bool.and_self, and_self]
  | true =>
    simp only [Bool.and_eq_true, decide_eq_true_eq] at hF
    obtain ⟨N, rfl, hV⟩ := valOf hF.2
    obtain ⟨r, hr⟩ := grt_serve hV (by omega) (by omega) sup
    simp -implicitDefEqProofs only [qE, qF, qI, qJ, qO, qP, qR, qV, zd, zD, zI, zK, zO, List.length_nil, List.length_cons, zP, List.getD_eq_getElem?_getD, List.getElem?_cons_zero, ↓reduceIte, Nat.reduceEqDiff, Option.getD_some, zR, zS, Bool.not_true, ↓zU, List.append_nil, Nat.zero_add, Nat.reduceAdd, reduceCtorEq, List.map_cons, List.map_nil, List.drop_zero, List.take_nil, true_and, Nat.le_refl, kc, kh, jk, ↓jn, ↓jp, ↓ju]
    refine call_is (ok19 N arcs sup r hV (by omega) (by omega) hr) ?_ rfl ?_
    · simp [net, li, lendsOk, lendOk, lends, lend, wkL, wk, wkB, pos]
    simp -implicitDefEqProofs only [qF, qI, qO, qP, qR, qV, zD, zE, zI, zK, zO, List.length_nil, List.length_cons, zP, List.getD_eq_getElem?_getD, List.getElem?_cons_zero, ↓reduceIte, Nat.reduceEqDiff, Option.getD_some, List.nil_append, List.cons_append, Nat.zero_add, Nat.reduceAdd, reduceCtorEq, List.map_cons, List.map_nil, List.drop_zero, List.take_nil, true_and, Nat.le_refl, lg0, kc, ke, lg1, kh, jk, ↓jl, ↓jn, ↓jp, ↓ju, ↓jN, resV, rli, rlb]
    refine call_is (ok20 N arcs sup r hV (by omega) (by omega) hr) ?_ rfl ?_
    · simp [net, li, lendsOk, lendOk, lends, lend, wkL, wk, wkB, pos]
    generalize serveR N arcs sup r = x
    simp -implicitDefEqProofs only [qF, qI, qO, qP, qU, qW, zD, zI, zJ, zK, zO, ofConst, cells?, List.length_nil, List.length_cons, List.set_cons_zero, splice, zP, List.getD_eq_getElem?_getD, List.getElem?_cons_zero, ↓reduceIte, Nat.reduceEqDiff, Option.getD_some, List.nil_append, List.cons_append, List.append_nil, Nat.zero_add, Nat.reduceAdd, Nat.add_zero, freshP, List.map_cons, List.map_nil, List.take_zero, List.drop_nil, List.all_cons, List.all_nil, isC, Bool.and_true, Bool.and_self, true_and, and_true, and_self, List.not_mem_nil, not_false_eq_true, Nat.le_refl, lg0, zZ, ka, kg, kk, jk, ↓jl, ↓jv, ↓jx, cx0_bn, resG, rli, rlb]
    refine call_is sanOk ?_ rfl ?_
    · simp [lendsOk, lendOk, lends, lend, wkL, wk, wkB, pos]
    simp -implicitDefEqProofs only [qP, qQ, qR, qS, qV, qX, qZ, zD, zI, zK, zO, zP, List.getD_eq_getElem?_getD, List.getElem?_cons_zero, ↓reduceIte, Nat.reduceEqDiff, Option.getD_some, zQ, zS, ↓zT, zV, Nat.zero_add, Nat.add_zero, List.map_cons, List.map_nil, true_and, lg0, lg1, ↓jl, ↓jn, ↓jp, ↓jt, ↓jA, ↓qaL, beq_self_eq_true]
    refine call_is (ok13 x.1 x.1) ?_ rfl ?_
    · simp [li, lendsOk, lendOk, lends, lend, wkL, wk, wkB, pos]
    simp -implicitDefEqProofs only [qP, qQ, qR, qS, qV, qX, zD, zI, zK, zO, zP, List.getD_eq_getElem?_getD, List.getElem?_cons_zero, ↓reduceIte, Nat.reduceEqDiff, Option.getD_some, zS, ↓zT, zV, Nat.zero_add, List.map_cons, List.map_nil, lg0, ↓jl, ↓jn, ↓jp, ↓jt, ↓jA, decide_true]
    refine call_is (ok14 x.2.1 x.2.1) ?_ rfl ?_
    · simp [lb, lendsOk, lendOk, lends, lend, wkL, wk, wkB, pos]
    simp -implicitDefEqProofs only [qN, qO, qP, qR, qS, zI, zK, zO, ↓reduceIte, Nat.reduceEqDiff, zS, ↓zT, List.nil_append, zX, resP, tupV, List.reverse_cons, List.reverse_nil, wfV, Bool.and_self, and_self, decide_true]
theorem fn5 : ∀ xs, WfA [.st [.int .i64, .sl 4 (.st [.int .i64, .int .i64, .int .i64, .int .i64])], .sl 1 (.int .i64)] xs → Fn Try.prog 5 xs [] [] (fun r _ => r = .b true) := by
  intro xs h
  obtain ⟨x1, _, rfl, h1, h⟩ := h
  obtain ⟨x2, _, rfl, h2, h⟩ := h
  obtain rfl : _ = [] := h
  obtain ⟨n, arcs, rfl⟩ := wf_net h1
  obtain ⟨sup, rfl⟩ := wf_li h2
  exact Fn_post (ok5 n arcs sup).2 fun r h' h => h.1
end Go.Fx.F
namespace Go.Fx.F
open Go Go.Fx Go.Proofs
/-! The greatest flow and the least cut. -/
def arcIn (arcs : List Arc) (cut : List Bool) (fl : List Int) (k : Nat) : Int :=
  (if cut.getD (gA arcs k).from_.toNat false = true then fl.getD k 0 else 0) - (if cut.getD (gA arcs k).to.toNat false = true then fl.getD k 0 else 0)
def sumC (arcs : List Arc) (cut : List Bool) (fl : List Int) : Nat → Int
  | 0 => 0
  | k + 1 => sumC arcs cut fl k + arcIn arcs cut fl k
def sumN (arcs : List Arc) (cut : List Bool) (fl : List Int) (k : Nat) : Nat → Int
  | 0 => 0
  | v + 1 => sumN arcs cut fl k v + (if cut.getD v false = true then valTo arcs v fl k else 0)
theorem sumN_zero (arcs : List Arc) (cut : List Bool) (fl : List Int) : ∀ n, sumN arcs cut fl 0 n = 0
  | 0 => rfl
  | n + 1 => by simp [sumN, sumN_zero arcs cut fl n, valTo]
theorem sumN_step (arcs : List Arc) (cut : List Bool) (fl : List Int) (k : Nat) (h1 : 0 ≤ (gA arcs k).from_) (h2 : 0 ≤ (gA arcs k).to) : ∀ n, sumN arcs cut fl (k + 1) n = sumN arcs cut fl k n
    + (if (gA arcs k).from_ < n then (if cut.getD (gA arcs k).from_.toNat false = true then fl.getD k 0 else 0) else 0) - (if (gA arcs k).to < n then (if cut.getD (gA arcs k).to.toNat false = true then fl.getD k 0 else 0) else 0)
  | 0 => by
    simp only [sumN]
    rw [if_neg (by omega), if_neg (by omega)]; omega
  | n + 1 => by
    have ih := sumN_step arcs cut fl k h1 h2 n
    have hv : valTo arcs n fl (k + 1) = valTo arcs n fl k + (if (gA arcs k).from_ = n then fl.getD k 0 else 0) - (if (gA arcs k).to = n then fl.getD k 0 else 0) := rfl
    simp only [sumN, ih, hv]
    by_cases e1 : (gA arcs k).from_ = n
    · have t1 : (gA arcs k).from_.toNat = n := by omega
      rw [t1, if_neg (by omega), if_pos (show (gA arcs k).from_ < ((n + 1 : Nat) : Int) by omega), if_pos e1]
      by_cases e2 : (gA arcs k).to = n
      · have t2 : (gA arcs k).to.toNat = n := by omega
        rw [t2, if_neg (by omega), if_pos (show (gA arcs k).to < ((n + 1 : Nat) : Int) by omega), if_pos e2]
        split <;> omega
      · rw [if_neg e2]
        by_cases e3 : (gA arcs k).to < n
        · rw [if_pos e3, if_pos (show (gA arcs k).to < ((n + 1 : Nat) : Int) by omega)]
          by_cases e4 : cut.getD n false = true
          · rw [if_pos e4, if_pos e4, if_pos e4]; omega
          · rw [if_neg e4, if_neg e4, if_neg e4]; omega
        · rw [if_neg e3, if_neg (show ¬ (gA arcs k).to < ((n + 1 : Nat) : Int) by omega)]
          by_cases e4 : cut.getD n false = true
          · rw [if_pos e4, if_pos e4, if_pos e4]; omega
          · rw [if_neg e4, if_neg e4, if_neg e4]; omega
    · rw [if_neg e1]
      have c1 : (if (gA arcs k).from_ < ((n + 1 : Nat) : Int) then (if cut.getD (gA arcs k).from_.toNat false = true then fl.getD k 0 else 0) else 0) = (if (gA arcs k).from_ < (n : Int) then (if cut.getD (gA arcs k).from_.toNat false = true then fl.getD k 0 else 0) else 0) := by
        by_cases e3 : (gA arcs k).from_ < n
        · rw [if_pos e3, if_pos (by omega)]
        · rw [if_neg e3, if_neg (by omega)]
      rw [c1]
      by_cases e2 : (gA arcs k).to = n
      · have t2 : (gA arcs k).to.toNat = n := by omega
        rw [t2, if_neg (show ¬ (gA arcs k).to < (n : Int) by omega), if_pos (show (gA arcs k).to < ((n + 1 : Nat) : Int) by omega), if_pos e2]
        by_cases e4 : cut.getD n false = true
        · rw [if_pos e4, if_pos e4, if_pos e4]; omega
        · rw [if_neg e4, if_neg e4, if_neg e4]; omega
      · rw [if_neg e2]
        have c2 : (if (gA arcs k).to < ((n + 1 : Nat) : Int) then (if cut.getD (gA arcs k).to.toNat false = true then fl.getD k 0 else 0) else 0) = (if (gA arcs k).to < (n : Int) then (if cut.getD (gA arcs k).to.toNat false = true then fl.getD k 0 else 0) else 0) := by
          by_cases e3 : (gA arcs k).to < n
          · rw [if_pos e3, if_pos (by omega)]
          · rw [if_neg e3, if_neg (by omega)]
        rw [c2]
        by_cases e4 : cut.getD n false = true
        · rw [if_pos e4, if_pos e4]; omega
        · rw [if_neg e4, if_neg e4]; omega
theorem val_in {N : Nat} {arcs : List Arc} (hV : Val N arcs) {k : Nat} (hk : k < arcs.length) : (0 ≤ (gA arcs k).from_ ∧ (gA arcs k).from_ < N) ∧ (0 ≤ (gA arcs k).to ∧ (gA arcs k).to < N) := by
  rw [getD_nil (a := ⟨0,0,0,0⟩) hk]
  have := hV.ha arcs[k] (List.getElem_mem hk)
  exact ⟨this.1.1, this.1.2.1⟩
theorem sumN_all {N : Nat} {arcs : List Arc} (hV : Val N arcs) (cut : List Bool) (fl : List Int) : ∀ k, k ≤ arcs.length → sumN arcs cut fl k N = sumC arcs cut fl k
  | 0, _ => sumN_zero arcs cut fl N
  | k + 1, hk => by
    have := val_in hV (show k < arcs.length by omega)
    rw [sumN_step arcs cut fl k this.1.1 this.2.1, sumN_all hV cut fl k (by omega), if_pos this.1.2, if_pos this.2.2]
    simp only [sumC, arcIn]; omega
/-- What a set of nodes with the one end, and not the other, gives. -/
theorem sumN_flow (arcs : List Arc) (cut : List Bool) (fl : List Int) (k : Nat) {f t : Int} (hf : 0 ≤ f) (hcf : cut.getD f.toNat false = true) (hct : cut.getD t.toNat false = false) (N : Nat)
    (h0 : ∀ j : Int, 0 ≤ j → j < N → j ≠ f → j ≠ t → valTo arcs j fl k = 0) : ∀ n, n ≤ N → sumN arcs cut fl k n = if f < n then valTo arcs f fl k else 0
  | 0, _ => by rw [if_neg (by omega)]; rfl
  | n + 1, hn => by
    have ih := sumN_flow arcs cut fl k hf hcf hct N h0 n (by omega)
    simp only [sumN, ih]
    by_cases e1 : (n : Int) = f
    · have t1 : f.toNat = n := by omega
      rw [t1] at hcf
      rw [if_neg (by omega), if_pos hcf, if_pos (by omega), e1]; omega
    · have c1 : (if f < ((n + 1 : Nat) : Int) then valTo arcs f fl k else 0) = (if f < (n : Int) then valTo arcs f fl k else 0) := by
        by_cases e3 : f < n
        · rw [if_pos e3, if_pos (by omega)]
        · rw [if_neg e3, if_neg (by omega)]
      rw [c1]
      by_cases e2 : (n : Int) = t
      · have t1 : t.toNat = n := by omega
        rw [t1] at hct
        rw [if_neg (show ¬ cut.getD n false = true by rw [hct]; simp)]; omega
      · rw [h0 n (by omega) (by omega) e1 e2]
        split <;> omega
theorem sumC_le {arcs : List Arc} (cut : List Bool) {fl : List Int} (hp : ∀ q, q < arcs.length → 0 ≤ fl.getD q 0 ∧ fl.getD q 0 ≤ (gA arcs q).cap) : ∀ k, k ≤ arcs.length → sumC arcs cut fl k ≤ cutTo arcs cut k
  | 0, _ => Int.le_refl _
  | k + 1, hk => by
    have ih := sumC_le cut hp k (by omega)
    have := hp k (by omega)
    have hc : cutTo arcs cut (k + 1) = cutTo arcs cut k + (if cut.getD (gA arcs k).from_.toNat false = true ∧ cut.getD (gA arcs k).to.toNat false = false then (gA arcs k).cap else 0) := rfl
    rw [hc]
    simp only [sumC, arcIn]
    clear hc
    generalize cut.getD (gA arcs k).from_.toNat false = a
    generalize cut.getD (gA arcs k).to.toNat false = b
    generalize fl.getD k 0 = x at *
    cases a <;> cases b <;> simp <;> omega
theorem sumC_eq {arcs : List Arc} (cut : List Bool) {fl : List Int} (h1 : ∀ q, q < arcs.length → cut.getD (gA arcs q).from_.toNat false = true → cut.getD (gA arcs q).to.toNat false = false → fl.getD q 0 = (gA arcs q).cap)
    (h2 : ∀ q, q < arcs.length → cut.getD (gA arcs q).from_.toNat false = false → cut.getD (gA arcs q).to.toNat false = true → fl.getD q 0 = 0) : ∀ k, k ≤ arcs.length → sumC arcs cut fl k = cutTo arcs cut k
  | 0, _ => rfl
  | k + 1, hk => by
    have ih := sumC_eq cut h1 h2 k (by omega)
    have g1 := h1 k (by omega)
    have g2 := h2 k (by omega)
    have hc : cutTo arcs cut (k + 1) = cutTo arcs cut k + (if cut.getD (gA arcs k).from_.toNat false = true ∧ cut.getD (gA arcs k).to.toNat false = false then (gA arcs k).cap else 0) := rfl
    rw [hc]
    simp only [sumC, arcIn, ih]
    clear hc
    generalize cut.getD (gA arcs k).from_.toNat false = a at *
    generalize cut.getD (gA arcs k).to.toNat false = b at *
    generalize fl.getD k 0 = x at *
    cases a <;> cases b <;> simp at * <;> omega
/-- No flow has more than a cut. -/
theorem weak {N : Nat} {arcs : List Arc} (hV : Val N arcs) {f t : Int} (hf : 0 ≤ f ∧ f < N) {cut : List Bool} {fl : List Int} (hl : fl.length = arcs.length) (hp : possP arcs fl) (hcf : cut.getD f.toNat false = true) (hct : cut.getD t.toNat false = false)
    (h0 : ∀ j : Int, 0 ≤ j → j < N → j ≠ f → j ≠ t → valTo arcs j fl arcs.length = 0) : valTo arcs f fl arcs.length ≤ cutTo arcs cut arcs.length := by
  have e1 := sumN_flow arcs cut fl arcs.length hf.1 hcf hct N h0 N (Nat.le_refl _)
  rw [if_pos hf.2, sumN_all hV cut fl _ (Nat.le_refl _)] at e1
  rw [← e1]
  exact sumC_le cut ((poss_iff hl).1 hp) _ (Nat.le_refl _)
theorem scan_closed {R : List Arc} {N : Nat} {f k : Int} {s : List Int × List Int} (hf : 0 ≤ f ∧ f < N) (hR : ∀ i, i < R.length → (0 ≤ (gA R i).to ∧ (gA R i).to < N)) (h : Srch R N f s) (hk : k ∈ s.2) :
    ∀ i, i ≤ R.length → ∀ q, q < i → (gA R q).from_ = k → 0 < (gA R q).cap → (gA R q).to ∈ (scanTo R k s i).2
  | 0, _, q, hq, _, _ => by omega
  | i + 1, hi, q, hq, hfr, hc => by
    obtain ⟨h1, h2, h3⟩ := Srch.scan hf hR h hk i (by omega)
    have hto := hR q (by omega)
    unfold scanTo
    by_cases e : q = i
    · subst e
      split
      · exact List.mem_append_right _ (by simp)
      · rename_i hn
        have : (scanTo R k s q).1.getD (gA R q).to.toNat 0 ≠ -2 := fun h => hn ⟨hfr, hc, h⟩
        have := (h1.mem (gA R q).to.toNat (by omega)).1 this
        rwa [Int.toNat_of_nonneg hto.1] at this
    · have ih := scan_closed hf hR h hk i (by omega) q (by omega) hfr hc
      split
      · exact List.mem_append_left _ ih
      · exact ih
theorem bfs_pre {R : List Arc} {N : Nat} {f : Int} (hf : 0 ≤ f ∧ f < N) (hR : ∀ i, i < R.length → (0 ≤ (gA R i).to ∧ (gA R i).to < N)) {h : Nat} : ∀ j, h ≤ j → (bfsTo R N f h).2 <+: (bfsTo R N f j).2
  | 0, hj => by rw [show h = 0 by omega]; exact List.prefix_refl _
  | j + 1, hj => by
    by_cases e : h = j + 1
    · rw [e]; exact List.prefix_refl _
    · refine (bfs_pre hf hR j (by omega)).trans ?_
      conv => rhs; unfold bfsTo
      split
      · rename_i k hk
        exact (Srch.scan hf hR (Srch.bfs hf hR j) (List.mem_of_getElem? hk) R.length (Nat.le_refl _)).2.2
      · exact List.prefix_refl _
/-- What can be reached from what was found was found. -/
theorem srch_closed {R : List Arc} {N : Nat} {f : Int} (hf : 0 ≤ f ∧ f < N) (hR : ∀ i, i < R.length → (0 ≤ (gA R i).to ∧ (gA R i).to < N)) {q : Nat} (hq : q < R.length) (hm : (gA R q).from_ ∈ (srch R N f).2) (hc : 0 < (gA R q).cap) : (gA R q).to ∈ (srch R N f).2 := by
  have hS : Srch R N f (srch R N f) := Srch.bfs hf hR N
  have hN := nodup_le N hS.nod hS.rng
  obtain ⟨h, hh, he⟩ := List.getElem_of_mem hm
  have hlt : h < (bfsTo R N f h).2.length := by
    apply Classical.byContradiction
    intro hn
    have := bfs_stay (R := R) (N := N) (f := f) (h := h) (by omega) N (by omega)
    unfold srch at hh
    rw [this] at hh
    omega
  have hpre := bfs_pre hf hR (h := h) N (by omega)
  have hk : (bfsTo R N f h).2[h] = (gA R q).from_ := by
    rw [← he]
    exact List.IsPrefix.getElem hpre hlt
  have hmem : (gA R q).from_ ∈ (bfsTo R N f h).2 := by rw [← hk]; exact List.getElem_mem hlt
  have h2 := scan_closed hf hR (Srch.bfs hf hR h) hmem R.length (Nat.le_refl _) q hq rfl hc
  have h3 : bfsTo R N f (h + 1) = scanTo R (gA R q).from_ (bfsTo R N f h) R.length := by
    conv => lhs; unfold bfsTo
    rw [List.getElem?_eq_getElem hlt, hk]
  rw [← h3] at h2
  exact (bfs_pre hf hR (h := h + 1) N (by omega)).subset h2
theorem cutOf_in {N : Nat} {arcs : List Arc} (hV : Val N arcs) {f : Int} (hf : 0 ≤ f ∧ f < N) {fl : List Int} {v : Int} (hv : 0 ≤ v ∧ v < N) : (cutOf arcs N f fl).getD v.toNat false = true ↔ v ∈ (srch (restA arcs fl arcs.length) N f).2 := by
  have hS : Srch (restA arcs fl arcs.length) N f (srch (restA arcs fl arcs.length) N f) := Srch.bfs hf (rest_to hV fl) N
  have := hS.mem v.toNat (by omega)
  rw [Int.toNat_of_nonneg hv.1] at this
  rw [← this]
  unfold cutOf cutK
  rw [List.getD_eq_getElem?_getD, List.getElem?_map, List.getElem?_range (by omega)]
  simp
  omega
/-- The cut of the search that ends the rounds. -/
theorem strong {N : Nat} {arcs : List Arc} (hV : Val N arcs) {f t : Int} (hE : (0 ≤ f ∧ f < N) ∧ (0 ≤ t ∧ t < N) ∧ f ≠ t) {r : List Int} (hr : Grt N arcs f t r) :
    (cutOf arcs N f r).getD f.toNat false = true ∧ (cutOf arcs N f r).getD t.toNat false = false ∧ cutTo arcs (cutOf arcs N f r) arcs.length = valTo arcs f r arcs.length := by
  have hS : Srch (restA arcs r arcs.length) N f (srch (restA arcs r arcs.length) N f) := Srch.bfs hE.1 (rest_to hV r) N
  have c1 : (cutOf arcs N f r).getD f.toNat false = true := (cutOf_in hV hE.1 hE.1).2 (List.mem_of_getElem? hS.root.1)
  have c2 : (cutOf arcs N f r).getD t.toNat false = false := by
    rw [← Bool.not_eq_true]
    intro h
    have hm := (cutOf_in hV hE.1 hE.2.1).1 h
    have := (hS.mem t.toNat (by omega)).2 (by rw [Int.toNat_of_nonneg hE.2.1.1]; exact hm)
    have hs := hr.stop
    unfold round at hs
    rw [if_neg this] at hs
    simp at hs
  refine ⟨c1, c2, ?_⟩
  obtain ⟨d, hd, hv⟩ := hr.val
  have h0 : ∀ j : Int, 0 ≤ j → j < N → j ≠ f → j ≠ t → valTo arcs j r arcs.length = 0 := by
    intro j _ _ h1 h2
    rw [hv, if_neg (fun h => h1 h.symm), if_neg (fun h => h2 h.symm)]; rfl
  have e1 := sumN_flow arcs (cutOf arcs N f r) r arcs.length hE.1.1 c1 c2 N h0 N (Nat.le_refl _)
  rw [if_pos hE.1.2, sumN_all hV _ r _ (Nat.le_refl _)] at e1
  rw [← e1]
  have hpo := (poss_iff hr.len).1 hr.pos
  refine (sumC_eq _ (fun q hq h1 h2 => ?_) (fun q hq h1 h2 => ?_) _ (Nat.le_refl _)).symm
  · have hvi := val_in hV hq
    have hm := (cutOf_in hV hE.1 hvi.1).1 h1
    apply Classical.byContradiction
    intro hne
    have hcap := hpo q hq
    have hev := restA_even arcs r arcs.length q hq
    have := srch_closed hE.1 (rest_to hV r) (q := 2 * q) (by rw [restA_len]; omega) (by rw [hev]; exact hm) (by rw [hev]; simp only; omega)
    rw [hev] at this
    have := (cutOf_in hV hE.1 hvi.2).2 this
    rw [this] at h2
    simp at h2
  · have hvi := val_in hV hq
    have hm := (cutOf_in hV hE.1 hvi.2).1 h2
    apply Classical.byContradiction
    intro hne
    have hcap := hpo q hq
    have hod := restA_odd arcs r arcs.length q hq
    have := srch_closed hE.1 (rest_to hV r) (q := 2 * q + 1) (by rw [restA_len]; omega) (by rw [hod]; exact hm) (by rw [hod]; simp only; omega)
    rw [hod] at this
    have := (cutOf_in hV hE.1 hvi.1).2 this
    rw [this] at h1
    simp at h1
end Go.Fx.F
namespace Go.Fx.F
open Go Go.Fx Go.Proofs
/-! Serve: what a flow of the greater network says of the given one. -/
theorem valTo_app (A B : List Arc) (v : Int) (r : List Int) : ∀ n, n ≤ A.length → valTo (A ++ B) v r n = valTo A v r n
  | 0, _ => rfl
  | n + 1, h => by
    have h1 : (A ++ B).getD n ⟨0,0,0,0⟩ = A.getD n ⟨0,0,0,0⟩ := by rw [getD_app, if_pos (by omega)]
    simp only [valTo, valTo_app A B v r n (by omega), h1]
theorem getD_snoc (A : List Arc) (a : Arc) : (A ++ [a]).getD A.length ⟨0,0,0,0⟩ = a := by
  rw [getD_app, if_neg (by omega), Nat.sub_self]; rfl
theorem cutTo_app (A B : List Arc) (c : List Bool) : ∀ n, n ≤ A.length → cutTo (A ++ B) c n = cutTo A c n
  | 0, _ => rfl
  | n + 1, h => by
    have h1 : (A ++ B).getD n ⟨0,0,0,0⟩ = A.getD n ⟨0,0,0,0⟩ := by rw [getD_app, if_pos (by omega)]
    simp only [cutTo, cutTo_app A B c n (by omega), h1]
section
variable (N : Nat) (arcs : List Arc) (sup r : List Int)
def exY (k : Nat) : Int := r.getD (moreA N arcs sup k).length 0
def posY : Nat → Int
  | 0 => 0
  | k + 1 => posY k + (if 0 < sup.getD k 0 then exY N arcs sup r k else 0)
def negY : Nat → Int
  | 0 => 0
  | k + 1 => negY k + (if sup.getD k 0 < 0 then exY N arcs sup r k else 0)
def negS (sup : List Int) : Nat → Int
  | 0 => 0
  | k + 1 => negS sup k + (if sup.getD k 0 < 0 then -sup.getD k 0 else 0)
theorem give_neg : ∀ k, sumS sup k = giveS sup k - negS sup k
  | 0 => rfl
  | k + 1 => by
    simp only [sumS, giveS, negS, give_neg k]
    split <;> split <;> omega
theorem valTo_more (k : Nat) (v : Int) : valTo (moreA N arcs sup (k + 1)) v r (moreA N arcs sup (k + 1)).length = valTo (moreA N arcs sup k) v r (moreA N arcs sup k).length
    + (if 0 < sup.getD k 0 then (if (N : Int) = v then exY N arcs sup r k else 0) - (if (k : Int) = v then exY N arcs sup r k else 0)
       else if sup.getD k 0 < 0 then (if (k : Int) = v then exY N arcs sup r k else 0) - (if (N : Int) + 1 = v then exY N arcs sup r k else 0) else 0) := by
  unfold exY
  by_cases h1 : 0 < sup.getD k 0
  · have hm : moreA N arcs sup (k + 1) = moreA N arcs sup k ++ [⟨N, k, sup.getD k 0, 0⟩] := by simp only [moreA, exA]; rw [if_pos h1]
    rw [hm, List.length_append, List.length_singleton, if_pos h1]
    simp only [valTo, getD_snoc, valTo_app _ _ v r _ (Nat.le_refl _)]
    omega
  · by_cases h2 : sup.getD k 0 < 0
    · have hm : moreA N arcs sup (k + 1) = moreA N arcs sup k ++ [⟨k, (N : Int) + 1, -sup.getD k 0, 0⟩] := by simp only [moreA, exA]; rw [if_neg h1, if_pos h2]
      rw [hm, List.length_append, List.length_singleton, if_neg h1, if_pos h2]
      simp only [valTo, getD_snoc, valTo_app _ _ v r _ (Nat.le_refl _)]
      omega
    · have hm : moreA N arcs sup (k + 1) = moreA N arcs sup k := by simp only [moreA, exA]; rw [if_neg h1, if_neg h2, List.append_nil]
      rw [hm, if_neg h1, if_neg h2]; omega
theorem cutTo_more (c : List Bool) (hN : c.getD N false = true) (hN1 : c.getD (N + 1) false = false) (k : Nat) : cutTo (moreA N arcs sup (k + 1)) c (moreA N arcs sup (k + 1)).length = cutTo (moreA N arcs sup k) c (moreA N arcs sup k).length
    + (if 0 < sup.getD k 0 then (if c.getD k false = false then sup.getD k 0 else 0) else if sup.getD k 0 < 0 then (if c.getD k false = true then -sup.getD k 0 else 0) else 0) := by
  have t1 : ((N : Int)).toNat = N := by omega
  have t2 : ((N : Int) + 1).toNat = N + 1 := by omega
  have t3 : ((k : Int)).toNat = k := by omega
  by_cases h1 : 0 < sup.getD k 0
  · have hm : moreA N arcs sup (k + 1) = moreA N arcs sup k ++ [⟨N, k, sup.getD k 0, 0⟩] := by simp only [moreA, exA]; rw [if_pos h1]
    rw [hm, List.length_append, List.length_singleton, if_pos h1]
    simp only [cutTo, getD_snoc, cutTo_app _ _ c _ (Nat.le_refl _), t1, t3, hN, true_and]
  · by_cases h2 : sup.getD k 0 < 0
    · have hm : moreA N arcs sup (k + 1) = moreA N arcs sup k ++ [⟨k, (N : Int) + 1, -sup.getD k 0, 0⟩] := by simp only [moreA, exA]; rw [if_neg h1, if_pos h2]
      rw [hm, List.length_append, List.length_singleton, if_neg h1, if_pos h2]
      simp only [cutTo, getD_snoc, cutTo_app _ _ c _ (Nat.le_refl _), t2, t3, hN1, and_true]
    · have hm : moreA N arcs sup (k + 1) = moreA N arcs sup k := by simp only [moreA, exA]; rw [if_neg h1, if_neg h2, List.append_nil]
      rw [hm, if_neg h1, if_neg h2]; omega
/-- The nodes of a cut give so much. -/
def gS (sup : List Int) (c : List Bool) : Nat → Int
  | 0 => 0
  | k + 1 => gS sup c k + (if c.getD k false = true then sup.getD k 0 else 0)
theorem cut_gives (c : List Bool) (hN : c.getD N false = true) (hN1 : c.getD (N + 1) false = false) : ∀ k, cutTo (moreA N arcs sup k) c (moreA N arcs sup k).length = cutTo arcs c arcs.length + giveS sup k - gS sup c k
  | 0 => by simp only [moreA, giveS, gS]; omega
  | k + 1 => by
    rw [cutTo_more N arcs sup c hN hN1 k, cut_gives c hN hN1 k]
    simp only [giveS, gS]
    cases c.getD k false <;> simp <;> split <;> (try split) <;> omega
variable {N : Nat} {arcs : List Arc} {sup r : List Int}
theorem val_out {N : Nat} {arcs : List Arc} (hV : Val N arcs) (v : Int) (hv : (N : Int) ≤ v) (r : List Int) : ∀ n, n ≤ arcs.length → valTo arcs v r n = 0
  | 0, _ => rfl
  | n + 1, h => by
    have := val_in hV (show n < arcs.length by omega)
    have e : valTo arcs v r (n + 1) = valTo arcs v r n + (if (gA arcs n).from_ = v then r.getD n 0 else 0) - (if (gA arcs n).to = v then r.getD n 0 else 0) := rfl
    rw [e, val_out hV v hv r n (by omega), if_neg (by omega), if_neg (by omega)]; rfl
theorem more_src (hV : Val N arcs) : ∀ k, k ≤ N → valTo (moreA N arcs sup k) N r (moreA N arcs sup k).length = posY N arcs sup r k
  | 0, _ => val_out hV N (Int.le_refl _) r _ (Nat.le_refl _)
  | k + 1, h => by
    rw [valTo_more, more_src hV k (by omega), if_pos rfl, if_neg (show ¬ (k : Int) = N by omega), if_neg (show ¬ (N : Int) + 1 = N by omega)]
    simp only [posY]
    split
    · omega
    · split <;> omega
theorem more_snk (hV : Val N arcs) : ∀ k, k ≤ N → valTo (moreA N arcs sup k) ((N : Int) + 1) r (moreA N arcs sup k).length = -negY N arcs sup r k
  | 0, _ => val_out hV _ (by omega) r _ (Nat.le_refl _)
  | k + 1, h => by
    rw [valTo_more, more_snk hV k (by omega), if_neg (show ¬ (N : Int) = (N : Int) + 1 by omega), if_neg (show ¬ (k : Int) = (N : Int) + 1 by omega), if_pos rfl]
    simp only [negY]
    split
    · rw [if_neg (by omega)]; omega
    · split <;> omega
theorem more_mid (j : Nat) (hj : j < N) : ∀ k, k ≤ N → valTo (moreA N arcs sup k) j r (moreA N arcs sup k).length = valTo arcs j r arcs.length + (if j < k then (if 0 < sup.getD j 0 then -exY N arcs sup r j else if sup.getD j 0 < 0 then exY N arcs sup r j else 0) else 0)
  | 0, _ => by simp [moreA]
  | k + 1, h => by
    rw [valTo_more, more_mid j hj k (by omega), if_neg (show ¬ (N : Int) = j by omega), if_neg (show ¬ (N : Int) + 1 = j by omega)]
    by_cases e : j = k
    · subst e
      simp only [Nat.lt_irrefl, if_false, show j < j + 1 by omega, if_true]
      split
      · omega
      · split <;> omega
    · rw [if_neg (show ¬ (k : Int) = j by omega)]
      by_cases e2 : j < k
      · rw [if_pos e2, if_pos (show j < k + 1 by omega)]; split <;> omega
      · rw [if_neg e2, if_neg (show ¬ j < k + 1 by omega)]; split <;> omega
/-- The flow on a new arc. -/
theorem exY_in (hl : r.length = (moreA N arcs sup N).length) (hp : possP (moreA N arcs sup N) r) : ∀ k, k < N → (0 < sup.getD k 0 → 0 ≤ exY N arcs sup r k ∧ exY N arcs sup r k ≤ sup.getD k 0) ∧ (sup.getD k 0 < 0 → 0 ≤ exY N arcs sup r k ∧ exY N arcs sup r k ≤ -sup.getD k 0) := by
  have pre : ∀ n, n ≤ N → ∃ l, moreA N arcs sup N = moreA N arcs sup n ++ l := by
    intro n hn
    obtain ⟨d, hd⟩ : ∃ d, N = n + d := ⟨N - n, by omega⟩
    have : ∀ d, ∃ l, moreA N arcs sup (n + d) = moreA N arcs sup n ++ l := by
      intro d
      induction d with
      | zero => exact ⟨[], by simp⟩
      | succ d ih =>
        obtain ⟨l, hl⟩ := ih
        refine ⟨l ++ exA N (n + d) (sup.getD (n + d) 0), ?_⟩
        rw [show n + (d + 1) = (n + d) + 1 from rfl]
        simp only [moreA]
        rw [hl, List.append_assoc]
    obtain ⟨l, hl⟩ := this d
    exact ⟨l, by rw [← hl, ← hd]⟩
  intro k hk
  obtain ⟨l, hl2⟩ := pre (k + 1) (by omega)
  have hpo := (poss_iff hl).1 hp (moreA N arcs sup k).length
  have key : ∀ a : Arc, exA N k (sup.getD k 0) = [a] → 0 ≤ exY N arcs sup r k ∧ exY N arcs sup r k ≤ a.cap := by
    intro a ha
    have e1 : moreA N arcs sup (k + 1) = moreA N arcs sup k ++ [a] := by simp only [moreA, ha]
    rw [e1] at hl2
    have hlt : (moreA N arcs sup k).length < (moreA N arcs sup N).length := by rw [hl2]; simp
    have := hpo hlt
    have hga : gA (moreA N arcs sup N) (moreA N arcs sup k).length = a := by
      unfold gA
      rw [hl2, List.append_assoc, getD_app, if_neg (by omega), Nat.sub_self]; rfl
    rw [hga] at this
    exact this
  refine ⟨fun h => ?_, fun h => ?_⟩
  · exact key ⟨N, k, sup.getD k 0, 0⟩ (by unfold exA; rw [if_pos h])
  · exact key ⟨k, (N : Int) + 1, -sup.getD k 0, 0⟩ (by unfold exA; rw [if_neg (by omega), if_pos h])
theorem pos_full (hy : ∀ k, k < N → (0 < sup.getD k 0 → 0 ≤ exY N arcs sup r k ∧ exY N arcs sup r k ≤ sup.getD k 0)) : ∀ n, n ≤ N → posY N arcs sup r n ≤ giveS sup n ∧ (giveS sup n ≤ posY N arcs sup r n → ∀ k, k < n → 0 < sup.getD k 0 → exY N arcs sup r k = sup.getD k 0)
  | 0, _ => ⟨Int.le_refl _, fun _ k hk => by omega⟩
  | n + 1, h => by
    obtain ⟨h1, h2⟩ := pos_full hy n (by omega)
    have h3 := hy n (by omega)
    simp only [posY, giveS]
    refine ⟨by split <;> omega, fun hge k hk hp => ?_⟩
    by_cases e : k = n
    · subst e
      rw [if_pos hp, if_pos hp] at hge
      have := h3 hp
      omega
    · refine h2 ?_ k (by omega) hp
      by_cases hq : 0 < sup.getD n 0
      · rw [if_pos hq, if_pos hq] at hge
        have := h3 hq
        omega
      · rw [if_neg hq, if_neg hq] at hge
        omega
theorem neg_full (hy : ∀ k, k < N → (sup.getD k 0 < 0 → 0 ≤ exY N arcs sup r k ∧ exY N arcs sup r k ≤ -sup.getD k 0)) : ∀ n, n ≤ N → negY N arcs sup r n ≤ negS sup n ∧ (negS sup n ≤ negY N arcs sup r n → ∀ k, k < n → sup.getD k 0 < 0 → exY N arcs sup r k = -sup.getD k 0)
  | 0, _ => ⟨Int.le_refl _, fun _ k hk => by omega⟩
  | n + 1, h => by
    obtain ⟨h1, h2⟩ := neg_full hy n (by omega)
    have h3 := hy n (by omega)
    simp only [negY, negS]
    refine ⟨by split <;> omega, fun hge k hk hp => ?_⟩
    by_cases e : k = n
    · subst e
      rw [if_pos hp, if_pos hp] at hge
      have := h3 hp
      omega
    · refine h2 ?_ k (by omega) hp
      by_cases hq : sup.getD n 0 < 0
      · rw [if_pos hq, if_pos hq] at hge
        have := h3 hq
        omega
      · rw [if_neg hq, if_neg hq] at hge
        omega
theorem valTo_take (arcs : List Arc) (v : Int) (r : List Int) (m : Nat) : ∀ n, n ≤ m → valTo arcs v (r.take m) n = valTo arcs v r n
  | 0, _ => rfl
  | n + 1, h => by
    have : (r.take m).getD n 0 = r.getD n 0 := by
      rw [List.getD_eq_getElem?_getD, List.getD_eq_getElem?_getD, List.getElem?_take, if_pos (by omega)]
    simp only [valTo, valTo_take arcs v r m n (by omega), this]
theorem cutTo_take {N : Nat} {arcs : List Arc} (hV : Val N arcs) (c : List Bool) : ∀ n, n ≤ arcs.length → cutTo arcs (c.take N) n = cutTo arcs c n
  | 0, _ => rfl
  | n + 1, h => by
    have hv := val_in hV (show n < arcs.length by omega)
    have ht : ∀ x : Int, 0 ≤ x → x < N → (c.take N).getD x.toNat false = c.getD x.toNat false := by
      intro x h1 h2
      rw [List.getD_eq_getElem?_getD, List.getD_eq_getElem?_getD, List.getElem?_take, if_pos (by omega)]
    have e1 := ht _ hv.1.1 hv.1.2
    have e2 := ht _ hv.2.1 hv.2.2
    unfold gA at e1 e2
    simp only [cutTo, cutTo_take hV c n (by omega), e1, e2]
theorem gS_take (c : List Bool) (N : Nat) : ∀ n, n ≤ N → gS sup (c.take N) n = gS sup c n
  | 0, _ => rfl
  | n + 1, h => by
    have : (c.take N).getD n false = c.getD n false := by
      rw [List.getD_eq_getElem?_getD, List.getD_eq_getElem?_getD, List.getElem?_take, if_pos (by omega)]
    simp only [gS, gS_take c N n (by omega), this]
/-- A flow that Serve returns serves all. -/
theorem serve_ok (hV : Val N arcs) (hr : Grt (N + 2) (moreA N arcs sup N) N ((N : Int) + 1) r) (hsum : sumS sup N = 0) (hge : giveS sup N ≤ valTo (moreA N arcs sup N) N r (moreA N arcs sup N).length) :
    (r.take arcs.length).length = arcs.length ∧ possP arcs (r.take arcs.length) ∧ ∀ k : Nat, k < N → valTo arcs k (r.take arcs.length) arcs.length = sup.getD k 0 := by
  have hml := more_len N arcs sup N
  have hlen : (r.take arcs.length).length = arcs.length := by rw [List.length_take, hr.len]; omega
  have hy := exY_in hr.len hr.pos
  obtain ⟨d, hd, hv⟩ := hr.val
  have h1 : posY N arcs sup r N = d := by
    rw [← more_src hV N (Nat.le_refl _), hv, if_pos rfl, if_neg (by omega)]; omega
  have h2 : negY N arcs sup r N = d := by
    have := more_snk (sup := sup) (r := r) hV N (Nat.le_refl _)
    rw [hv, if_neg (by omega), if_pos rfl] at this
    omega
  rw [more_src hV N (Nat.le_refl _)] at hge
  have hneg := give_neg sup N
  have hp := pos_full (fun k hk => (hy k hk).1) N (Nat.le_refl _)
  have hn := neg_full (fun k hk => (hy k hk).2) N (Nat.le_refl _)
  have hpa := hp.2 hge
  have hna := hn.2 (by have := hp.1; omega)
  refine ⟨hlen, ?_, fun k hk => ?_⟩
  · rw [poss_iff hlen]
    intro q hq
    have := (poss_iff hr.len).1 hr.pos q (by omega)
    have e1 : (r.take arcs.length).getD q 0 = r.getD q 0 := by
      rw [List.getD_eq_getElem?_getD, List.getD_eq_getElem?_getD, List.getElem?_take, if_pos hq]
    have e2 : ∀ n, gA (moreA N arcs sup n) q = gA arcs q := by
      intro n
      induction n with
      | zero => rfl
      | succ n ih =>
        unfold gA at ih ⊢
        have := more_len N arcs sup n
        simp only [moreA]
        rw [getD_app, if_pos (by omega), ih]
    rw [e1, ← e2 N]; exact this
  · rw [valTo_take arcs k r _ _ (Nat.le_refl _)]
    have hm := more_mid (arcs := arcs) (sup := sup) (r := r) k hk N (Nat.le_refl _)
    rw [hv, if_neg (by omega), if_neg (by omega), if_pos hk] at hm
    by_cases c1 : 0 < sup.getD k 0
    · rw [if_pos c1, hpa k hk c1] at hm; omega
    · by_cases c2 : sup.getD k 0 < 0
      · rw [if_neg c1, if_pos c2, hna k hk c2] at hm; omega
      · rw [if_neg c1, if_neg c2] at hm; omega
/-- A cut that Serve returns tells why. -/
theorem serve_why (hV : Val N arcs) (hs : sup.any bigB = false) (hN : N ≤ 30) (hL : arcs.length ≤ 100) (hr : Grt (N + 2) (moreA N arcs sup N) N ((N : Int) + 1) r) (hlt : valTo (moreA N arcs sup N) N r (moreA N arcs sup N).length < giveS sup N) :
    cutTo arcs ((cutOf (moreA N arcs sup N) (N + 2) N r).take N) arcs.length < gS sup ((cutOf (moreA N arcs sup N) (N + 2) N r).take N) N := by
  have hVm := more_val hV hs (by omega) (by omega) N (Nat.le_refl _)
  obtain ⟨s1, s2, s3⟩ := strong hVm (f := N) (t := (N : Int) + 1) ⟨by omega, by omega, by omega⟩ hr
  rw [show ((N : Int)).toNat = N by omega] at s1
  rw [show ((N : Int) + 1).toNat = N + 1 by omega] at s2
  have h1 := cut_gives N arcs sup _ s1 s2 N
  rw [s3] at h1
  rw [cutTo_take hV _ _ (Nat.le_refl _), gS_take _ _ _ (Nat.le_refl _)]
  omega
/-- No flow serves more than a cut lets through. -/
theorem gS_val (c : List Bool) (fl : List Int) : ∀ n, (∀ k : Nat, k < n → valTo arcs k fl arcs.length = sup.getD k 0) → sumN arcs c fl arcs.length n = gS sup c n
  | 0, _ => rfl
  | n + 1, h => by
    simp only [sumN, gS, gS_val c fl n fun k hk => h k (by omega), h n (by omega)]
theorem serve_no (hV : Val N arcs) {fl : List Int} (hl : fl.length = arcs.length) (hp : possP arcs fl) (hs : ∀ k : Nat, k < N → valTo arcs k fl arcs.length = sup.getD k 0) (c : List Bool) : gS sup c N ≤ cutTo arcs c arcs.length := by
  rw [← gS_val c fl N hs, sumN_all hV c fl _ (Nat.le_refl _)]
  exact sumC_le c ((poss_iff hl).1 hp) _ (Nat.le_refl _)
theorem gS_all : ∀ n, n ≤ N → gS sup (List.replicate N true) n = sumS sup n
  | 0, _ => rfl
  | n + 1, h => by
    have : (List.replicate N true).getD n false = true := by
      rw [List.getD_eq_getElem?_getD, List.getElem?_replicate, if_pos (by omega)]; rfl
    simp only [gS, sumS, gS_all n (by omega), this, if_true]
theorem cut_all {N : Nat} {arcs : List Arc} (hV : Val N arcs) : ∀ n, n ≤ arcs.length → cutTo arcs (List.replicate N true) n = 0
  | 0, _ => rfl
  | n + 1, h => by
    have hv := val_in hV (show n < arcs.length by omega)
    have : (List.replicate N true).getD (gA arcs n).to.toNat false = true := by
      rw [List.getD_eq_getElem?_getD, List.getElem?_replicate, if_pos (by omega)]; rfl
    unfold gA at this
    simp only [cutTo, cut_all hV n (by omega), this]
    simp
/-- A flow that serves all has supplies of the sum 0. -/
theorem serve_sum (hV : Val N arcs) {fl : List Int} (hl : fl.length = arcs.length) (hp : possP arcs fl) (hs : ∀ k : Nat, k < N → valTo arcs k fl arcs.length = sup.getD k 0) : sumS sup N = 0 := by
  have h1 := gS_val (arcs := arcs) (sup := sup) (List.replicate N true) fl N hs
  rw [gS_all N (Nat.le_refl _), sumN_all hV _ fl _ (Nat.le_refl _)] at h1
  rw [← h1]
  have : ∀ n, n ≤ arcs.length → sumC arcs (List.replicate N true) fl n = 0 := by
    intro n
    induction n with
    | zero => intro _; rfl
    | succ n ih =>
      intro h
      have hv := val_in hV (show n < arcs.length by omega)
      have e1 : (List.replicate N true).getD (gA arcs n).to.toNat false = true := by
        rw [List.getD_eq_getElem?_getD, List.getElem?_replicate, if_pos (by omega)]; rfl
      have e2 : (List.replicate N true).getD (gA arcs n).from_.toNat false = true := by
        rw [List.getD_eq_getElem?_getD, List.getElem?_replicate, if_pos (by omega)]; rfl
      simp only [sumC, arcIn, ih (by omega), e1, e2, if_true]
      omega
  exact this _ (Nat.le_refl _)
end
end Go.Fx.F
namespace Go.Fx.F
open Go Go.Fx Go.Proofs
set_option maxRecDepth 20000
theorem small_of {sup : List Int} {k : Nat} (h : k < sup.length) (h1 : ∀ j (h : j < sup.length), j < k → bigB sup[j] = false) (h2 : bigB sup[k] = false) : ∀ j (h : j < sup.length), j < k + 1 → bigB sup[j] = false := by
  intro j hj hlt
  by_cases e : j = k
  · subst e; exact h2
  · exact h1 j hj (by omega)
theorem any_of {sup : List Int} (h1 : ∀ j (h : j < sup.length), j < sup.length → bigB sup[j] = false) : sup.any bigB = false := by
  rw [List.any_eq_false]
  intro a ha
  obtain ⟨j, hj, rfl⟩ := List.getElem_of_mem ha
  rw [h1 j hj hj]; simp
theorem gS_bound {sup : List Int} (h : sup.any bigB = false) (c : List Bool) : ∀ k : Nat, -((k : Int) * 1073741824) ≤ gS sup c k ∧ gS sup c k ≤ (k : Int) * 1073741824
  | 0 => by simp [gS]
  | k + 1 => by
    have h1 := gS_bound h c k
    have h2 := small_in h k
    simp only [gS]; split <;> omega
def inet (n : Int) (arcs : List Arc) : Blk := .var [.i n, .ro 4 (arcs.map Arc.enc)]
theorem ok6 (n : Int) (arcs : List Arc) (sup other : List Int) : Ok 6 [rnet n arcs, rli sup, rli other] (Is (.b true)) := by
  refine ok_of lw6 (by simp) ?_
  unfold c6
  simp -implicitDefEqProofs only [qF, qI, qO, qP, qR, qT, qV, zD, zI, zK, zL, zO, ofConst, cells?, List.length_nil, List.length_cons, List.set_cons_zero, zP, List.getD_eq_getElem?_getD, List.getElem?_cons_zero, ↓reduceIte, Nat.reduceEqDiff, Option.getD_some, List.nil_append, List.append_nil, Nat.zero_add, Nat.reduceAdd, Nat.add_zero, freshP, List.map_cons, List.map_nil, List.drop_zero, List.take_nil, true_and, Nat.le_refl, kc, ke, kh, jk, ↓jl, ↓jn, ↓jp, ↓ju, args0, rnet, rli]
  refine call_is (ok9 n arcs 30 100) ?_ rfl ?_
  · simp [net, lendsOk, lendOk, lends, lend, wkL, wk, wkB, pos]
  cases hF : (decide (n ≤ 30 ∧ (arcs.length : Int) ≤ 100) && validB n arcs) with
  | false =>
    simp -implicitDefEqProofs only [qF, qI, qJ, qO, qP, qQ, qR, qS, zd, zD, zI, zK, zL, zO, ofConst, List.length_nil, List.length_cons, ↓reduceIte, Nat.reduceEqDiff, zR, zS, Bool.not_false, ↓zT, zV, List.append_nil, Nat.zero_add, List.map_nil, Bool.false_eq_true, jk]
    refine call_is sanOk ?_ rfl ?_
    · simp [lendsOk, lendOk, lends, lend, wkL, wk, wkB, pos]
    simp -implicitDefEqProofs only [qN, qO, qP, qR, zI, zK, zO, ↓reduceIte, List.nil_append, zX, resP, tupV, List.reverse_cons, List.reverse_nil, wfV, Bool.and_self, and_self]
  | true =>
    simp only [Bool.and_eq_true, decide_eq_true_eq] at hF
    obtain ⟨N, rfl, hV⟩ := valOf hF.2
    have hN := hV.hn
    have hL := hV.hl
    simp -implicitDefEqProofs only [qE, qF, qI, qJ, qK, qL, qO, qP, qQ, qR, qS, qV, qX, qZ, zb, zd, zD, zI, zK, zL, zO, ofConst, List.length_nil, List.length_cons, zP, List.getD_eq_getElem?_getD, List.getElem?_cons_zero, ↓reduceIte, Nat.reduceEqDiff, Option.getD_some, zQ, zR, zS, Bool.not_true, ↓zU, zV, List.append_nil, Nat.zero_add, Nat.add_zero, reduceCtorEq, List.map_nil, true_and, List.length_map, Bool.false_eq_true, jk, ↓jl, ↓jn, ↓jp, ↓jt, ↓jA, ↓jI, ↓qaM, List.length_map, cx0_fx]
    intro hsm
    by_cases hl : (sup.length : Int) = N
    · have hln : ((sup.length : Int) != N) = false := by simp [hl]
      have hl2 : sup.length = N := by omega
      simp -implicitDefEqProofs only [↓zU, hln]
      intro _
      refine loopP_intro (fun k : Nat => ⟨[(33, .i k), (32, .i sup.length), (31, .ro 1 (sup.map encI)), (3, .ptr 0 0 0), (2, .ro 1 (other.map encI)), (1, .ro 1 (sup.map encI))], [inet N arcs], 0⟩) (fun k => k ≤ sup.length ∧ ∀ j (h : j < sup.length), j < k → bigB sup[j] = false) (fun k => sup.length - k) 0 (by simp) ?_ ?_
      · unfold inet
        simp -implicitDefEqProofs only [zO, List.getElem?_cons_zero, ↓reduceIte, Nat.reduceEqDiff, reduceCtorEq, zY, leE, leH, leB, leV, leVs, keepP, liveP, wfE, wfB, wfV, wfL, Bool.and_self, and_self, leVs, leV, Int.natCast_zero]
      rintro k ⟨hk, hv⟩
      unfold inet
      simp -implicitDefEqProofs only [qE, qF, qI, qJ, qK, qM, qO, qP, qQ, qR, qS, qV, qY, qZ, zD, zI, zK, zL, zO, ofConst, List.length_nil, List.length_cons, zP, List.getD_eq_getElem?_getD, List.getElem?_cons_zero, ↓reduceIte, Nat.reduceEqDiff, Option.getD_some, zQ, zS, Bool.not_false, ↓zT, ↓zU, zV, List.append_nil, Nat.zero_add, Nat.reduceAdd, zY, leE, leH, leB, leV, leVs, keepP, liveP, wfE, wfB, wfV, wfL, List.map_cons, List.map_nil, List.drop_zero, List.take_nil, Bool.and_true, Bool.and_self, true_and, and_true, and_self, V.v.injEq, Value.int.injEq, Value.bool.injEq, List.length_map, Bool.false_eq_true, Nat.le_refl, kc, kh, jk, ↓jl, ↓jn, ↓jo, ↓jp, ↓jt, ↓ju, ↓jD, ↓qaF, ↓qaN, ↓qaP, List.length_map, List.getElem_map, encI_0, Int.toNat_natCast]
      simp only [br, decide_eq_true_eq, decide_eq_false_iff_not]
      refine ⟨fun h => ⟨⟨by omega, h⟩, by omega, ?_⟩, fun h => ?_⟩
      · have hkl : k < sup.length := by omega
        refine ⟨fun hb => ?_, fun hb => ⟨fun hb2 => ?_, fun hb2 => ⟨by simp only [lo, hi]; omega, k + 1, ⟨⟨by omega, small_of hkl hv (by unfold bigB; simp; omega)⟩, by omega⟩, by simp⟩⟩⟩
        all_goals
          refine call_is sanOk ?_ rfl ?_
          · simp [lendsOk, lendOk, lends, lend, wkL, wk, wkB, pos]
          simp -implicitDefEqProofs only [qN, qO, qP, qR, zI, zK, zO, ↓reduceIte, List.nil_append, zX, resP, tupV, List.reverse_cons, List.reverse_nil, wfV, Bool.and_self, and_self]
      have hke : k = sup.length := by omega
      subst hke
      have hb := any_of hv
      obtain ⟨r, hr⟩ := grt_serve hV (by omega) (by omega) sup
      have hg := hr hl2 hb
      refine call_is (ok19 N arcs sup r hV (by omega) (by omega) hr) ?_ rfl ?_
      · simp [net, li, lendsOk, lendOk, lends, lend, wkL, wk, wkB, pos]
      have h00 : ((0 : Int) == 0) = true := rfl
      have h10 : ((102 : Int) == 0) = false := rfl
      have h11 : ((102 : Int) != 102) = false := rfl
      have hcases : (serveR N arcs sup r = (r.take arcs.length, [], 0) ∧ sumS sup N = 0 ∧ giveS sup N ≤ valTo (moreA N arcs sup N) N r (moreA N arcs sup N).length) ∨
          ∃ c : List Bool, serveR N arcs sup r = ([], c, 102) ∧ c.length = N ∧ (sumS sup N = 0 → cutTo arcs c arcs.length < gS sup c N) := by
        by_cases hsum : sumS sup N = 0
        · by_cases hlt : valTo (moreA N arcs sup N) N r (moreA N arcs sup N).length < giveS sup N
          · exact .inr ⟨_, by simp [serveR, hl, hb, hsum, hlt], by rw [List.length_take, cutOf_len]; omega, fun _ => serve_why hV hb (by omega) (by omega) hg hlt⟩
          · exact .inl ⟨by simp [serveR, hl, hb, hsum, hlt], hsum, by omega⟩
        · exact .inr ⟨_, by simp [serveR, hl, hb, hsum]; rfl, by simp, fun h => absurd h hsum⟩
      rcases hcases with ⟨hres, hsum, hge⟩ | ⟨c, hres, hcl, hno⟩
      · obtain ⟨g1, g2, g3⟩ := serve_ok hV hg hsum hge
        rw [hres]
        have hlb : ((arcs.length : Int) != arcs.length) = false := bne_self_eq_false _
        generalize hl2r : r.take arcs.length = l at *
        have hp : possB arcs l = true := by simpa [possB] using ⟨g1, g2⟩
        have hlc : ((l.length : Int) != arcs.length) = false := by rw [g1]; exact hlb
        have hzz : (((0 : Nat) : Int) != 0) = false := rfl
        simp -implicitDefEqProofs only [qE, qF, qI, qJ, qK, qL, qN, qO, qP, qQ, qR, qS, qV, qX, qZ, zb, zD, zE, zI, zK, zL, zO, ofConst, List.length_nil, List.length_cons, zP, List.getD_eq_getElem?_getD, List.getElem?_cons_zero, ↓reduceIte, Nat.reduceEqDiff, Option.getD_some, zQ, zS, Bool.not_false, ↓zT, ↓zU, zV, List.nil_append, List.append_nil, Nat.zero_add, Nat.reduceAdd, Nat.add_zero, zX, resP, tupV, List.reverse_cons, List.reverse_nil, wfV, List.map_cons, List.map_nil, List.drop_zero, List.take_nil, true_and, V.v.injEq, Value.int.injEq, Value.bool.injEq, List.length_map, Bool.false_eq_true, Nat.le_refl, lg0, kc, lg1, kh, jk, ↓jl, ↓jn, ↓jp, ↓jt, ↓ju, ↓jA, ↓jI, ↓jN, ↓qaL, ↓qaM, List.length_map, cx0_fx, resV, rli, rlb, h00, hlc, hzz]
        intro _ _ _
        refine call_is (ok21 N arcs l) ?_ rfl ?_
        · simp [net, li, lendsOk, lendOk, lends, lend, wkL, wk, wkB, pos]
        simp -implicitDefEqProofs only [qE, qF, qI, qJ, qK, qL, qO, qP, qQ, qR, qS, zb, zd, zI, zK, zL, zO, ofConst, List.length_nil, List.length_cons, ↓reduceIte, Nat.reduceEqDiff, zR, zS, Bool.not_true, ↓zU, zV, List.append_nil, Nat.zero_add, List.length_map, Bool.false_eq_true, jk, ↓jI, List.length_map, cx0_fx, hp]
        intro _
        refine loopP_intro (fun k : Nat => ⟨[(73, .i k), (72, .i sup.length), (71, .ro 1 (sup.map encI)), (9, .ro 1 (l.map encI)), (3, .ptr 0 0 0)], [inet N arcs], 0⟩) (fun k => k ≤ sup.length) (fun k => sup.length - k) 0 (by simp) ?_ ?_
        · unfold inet
          simp -implicitDefEqProofs only [zO, List.getElem?_cons_zero, ↓reduceIte, Nat.reduceEqDiff, zY, leE, leH, leB, leV, leVs, keepP, liveP, wfE, wfB, wfV, wfL, Bool.and_self, and_self, leVs, leV, Int.natCast_zero]
        intro k hk
        unfold inet
        simp -implicitDefEqProofs only [qE, qF, qI, qJ, qK, qM, qO, qP, qR, qV, qY, qZ, zD, zI, zK, zO, List.length_nil, List.length_cons, zP, List.getD_eq_getElem?_getD, List.getElem?_cons_zero, ↓reduceIte, Nat.reduceEqDiff, Option.getD_some, zQ, zS, List.append_nil, Nat.zero_add, Nat.reduceAdd, List.map_cons, List.map_nil, List.drop_zero, List.take_nil, true_and, List.length_map, Nat.le_refl, kc, kh, jk, ↓jl, ↓jn, ↓jo, ↓jp, ↓jt, ↓ju, ↓jD, ↓qaN, List.length_map, List.getElem_map, encI_0, Int.toNat_natCast]
        simp only [br, decide_eq_true_eq, decide_eq_false_iff_not]
        refine ⟨fun h => ⟨⟨by omega, h⟩, by omega, ?_⟩, fun h => ?_⟩
        · have hkl : k < sup.length := by omega
          have hgk : sup.getD k 0 = sup[k] := by rw [List.getD_eq_getElem?_getD, List.getElem?_eq_getElem hkl]; rfl
          refine call_is (ok15 N k arcs l g1 (by omega) hN.2 (hV.flow g1 g2) (fun a ha => (hV.ha a ha).1) (by omega)) ?_ rfl ?_
          · simp [net, li, lendsOk, lendOk, lends, lend, wkL, wk, wkB, pos]
          rw [g3 k (by omega), hgk]
          simp -implicitDefEqProofs only [qE, qF, qJ, qO, qP, qR, qZ, zI, zK, zL, zO, ofConst, List.length_nil, List.length_cons, List.getElem?_cons_zero, ↓reduceIte, Nat.reduceEqDiff, zQ, zS, ↓zU, List.append_nil, Nat.zero_add, zY, leE, leH, leB, leV, leVs, keepP, liveP, wfE, wfB, wfV, wfL, Bool.and_true, Bool.and_self, true_and, and_true, and_self, V.v.injEq, Value.int.injEq, Value.bool.injEq, jk, ↓qaF, ↓qaM, bne_self_eq_false]
          exact ⟨by simp only [lo, hi]; omega, k + 1, ⟨by omega, by omega⟩, by simp⟩
        · refine call_is sanOk ?_ rfl ?_
          · simp [lendsOk, lendOk, lends, lend, wkL, wk, wkB, pos]
          simp -implicitDefEqProofs only [qN, qO, qP, qR, zI, zK, zO, ↓reduceIte, List.nil_append, zX, resP, tupV, List.reverse_cons, List.reverse_nil, wfV, Bool.and_self, and_self]
      · rw [hres]
        simp -implicitDefEqProofs only [qE, qF, qI, qJ, qK, qL, qN, qO, qP, qQ, qR, qS, qV, qX, qZ, zb, zD, zE, zI, zK, zL, zO, ofConst, List.length_nil, List.length_cons, zP, List.getD_eq_getElem?_getD, List.getElem?_cons_zero, ↓reduceIte, Nat.reduceEqDiff, Option.getD_some, zQ, zS, Bool.not_false, ↓zT, ↓zU, zV, List.nil_append, List.append_nil, Nat.zero_add, Nat.reduceAdd, Nat.add_zero, zX, resP, tupV, List.reverse_cons, List.reverse_nil, wfV, List.map_cons, List.map_nil, List.drop_zero, List.take_nil, true_and, V.v.injEq, Value.int.injEq, Value.bool.injEq, List.length_map, Bool.false_eq_true, Nat.le_refl, lg0, kc, lg1, kh, jk, ↓jl, ↓jn, ↓jp, ↓jt, ↓ju, ↓jA, ↓jI, ↓jN, ↓qaL, ↓qaM, List.length_map, cx0_fx, resV, rli, rlb, h10, h11]
        intro _
        have hcn : ((c.length : Int) != N) = false := by simp [hcl]
        simp -implicitDefEqProofs only [↓zU, hcn]
        intro _
        refine loopP_intro (fun k : Nat => ⟨[(97, .i k), (96, .i sup.length), (95, .ro 1 (sup.map encI)), (15, .i (gS sup c k)), (14, .i (sumS sup k)), (10, .ro 1 (c.map encB)), (3, .ptr 0 0 0), (2, .ro 1 (other.map encI)), (1, .ro 1 (sup.map encI))], [inet N arcs], 0⟩) (fun k => k ≤ sup.length) (fun k => sup.length - k) 0 (by simp) ?_ ?_
        · unfold inet
          simp -implicitDefEqProofs only [zO, List.getElem?_cons_zero, ↓reduceIte, Nat.reduceEqDiff, zY, leE, leH, leB, leV, leVs, keepP, liveP, wfE, wfB, wfV, wfL, Bool.and_self, and_self, leVs, leV, Int.natCast_zero, gS, sumS]
        intro k hk
        have hsb := sumS_bound hb k
        have hsmk := small_in hb k
        have hgb : -((k : Int) * 1073741824) ≤ gS sup c k ∧ gS sup c k ≤ (k : Int) * 1073741824 := gS_bound hb c k
        unfold inet
        simp -implicitDefEqProofs only [qE, qF, qI, qJ, qK, qM, qO, qP, qQ, qR, qS, qV, qY, qZ, zD, zI, zK, zL, zO, ofConst, List.length_nil, List.length_cons, zP, List.getD_eq_getElem?_getD, List.getElem?_cons_zero, ↓reduceIte, Nat.reduceEqDiff, Option.getD_some, zQ, zS, Bool.not_true, ↓zT, ↓zU, zV, List.append_nil, Nat.zero_add, Nat.reduceAdd, zY, leE, leH, leB, leV, leVs, keepP, liveP, wfE, wfB, wfV, wfL, List.map_cons, List.map_nil, List.drop_zero, List.take_nil, Bool.and_true, Bool.and_self, true_and, and_true, and_self, V.v.injEq, Value.int.injEq, Value.bool.injEq, List.length_map, Nat.le_refl, kc, kh, jk, ↓jl, ↓jn, ↓jo, ↓jp, ↓jt, ↓ju, ↓jD, ↓qaF, ↓qaL, ↓qaN, List.length_map, List.getElem_map, encI_0, encB_0, Int.toNat_natCast]
        simp only [br, decide_eq_true_eq, decide_eq_false_iff_not]
        refine ⟨fun h => ?_, fun h => ?_⟩
        · have hkl : k < sup.length := by omega
          have hgk : sup.getD k 0 = sup[k] := by rw [List.getD_eq_getElem?_getD, List.getElem?_eq_getElem hkl]; rfl
          rw [hgk] at hsmk
          have hck : c.getD k false = c[k]'(by omega) := by rw [List.getD_eq_getElem?_getD, List.getElem?_eq_getElem (by omega)]; rfl
          have hs1 : sumS sup (k + 1) = sumS sup k + sup[k] := by simp only [sumS, hgk]
          have hg1 : gS sup c (k + 1) = gS sup c k + (if c[k]'(by omega) = true then sup[k] else 0) := by simp only [gS, hgk, hck]
          refine ⟨⟨by omega, h⟩, by omega, ⟨by simp only [lo]; omega, by simp only [hi]; omega⟩, ⟨by omega, by omega⟩, by omega, fun hct => ⟨⟨by simp only [lo]; omega, by simp only [hi]; omega⟩, ⟨by simp only [lo]; omega, by simp only [hi]; omega⟩, k + 1, ⟨by omega, by omega⟩, by omega, ?_, hs1.symm⟩, fun hct => ⟨⟨by simp only [lo]; omega, by simp only [hi]; omega⟩, k + 1, ⟨by omega, by omega⟩, by omega, ?_, hs1.symm⟩⟩
          · rw [hg1, if_pos hct]
          · rw [hg1, if_neg (by rw [hct]; simp)]; omega
        have hke : k = sup.length := by omega
        subst hke
        rw [hl2] at hsb hgb ⊢
        refine ⟨fun hs0 => ?_, fun hs0 => ?_⟩
        · have hs0 : sumS sup N = 0 := by simpa using hs0
          refine call_is (ok18 N arcs c hV hcl) ?_ rfl ?_
          · simp [net, lb, lendsOk, lendOk, lends, lend, wkL, wk, wkB, pos]
          have hle : decide (gS sup c N ≤ cutTo arcs c arcs.length) = false := decide_eq_false (by have := hno hs0; omega)
          simp -implicitDefEqProofs only [qE, qF, qI, qJ, qO, qP, qQ, qR, qS, qV, qZ, zD, zI, zK, zO, List.length_nil, List.length_cons, zP, List.getD_eq_getElem?_getD, List.getElem?_cons_zero, ↓reduceIte, Nat.reduceEqDiff, Option.getD_some, zQ, zS, ↓zT, ↓zU, zV, List.append_nil, Nat.zero_add, Nat.reduceAdd, List.map_cons, List.map_nil, List.drop_zero, List.take_nil, true_and, Nat.le_refl, kc, kh, jk, ↓jn, ↓jp, ↓ju, ↓qaO, hle]
          refine call_is (ok21 N arcs other) ?_ rfl ?_
          · simp [net, li, lendsOk, lendOk, lends, lend, wkL, wk, wkB, pos]
          cases hp : possB arcs other with
          | false =>
            simp -implicitDefEqProofs only [qF, qI, qJ, qO, qP, zd, zD, zI, zK, zO, List.length_nil, List.length_cons, ↓reduceIte, zR, zS, Bool.not_false, ↓zT, List.append_nil, Nat.zero_add, List.map_nil, jk]
            refine call_is sanOk ?_ rfl ?_
            · simp [lendsOk, lendOk, lends, lend, wkL, wk, wkB, pos]
            simp -implicitDefEqProofs only [qN, qO, qP, qR, zI, zK, zO, ↓reduceIte, List.nil_append, zX, resP, tupV, List.reverse_cons, List.reverse_nil, wfV, Bool.and_self, and_self]
          | true =>
            simp -implicitDefEqProofs only [qE, qF, qI, qJ, qK, qL, qO, qP, qR, zb, zd, zI, zK, zL, zO, ofConst, List.length_nil, List.length_cons, ↓reduceIte, Nat.reduceEqDiff, zR, zS, Bool.not_true, ↓zU, List.append_nil, Nat.zero_add, List.length_map, jk, ↓jI, List.length_map, cx0_fx]
            have hP := possOf hp
            intro _
            refine loopP_intro (fun k : Nat => ⟨[(129, .i k), (128, .i sup.length), (127, .ro 1 (sup.map encI)), (3, .ptr 0 0 0), (2, .ro 1 (other.map encI)), (1, .ro 1 (sup.map encI))], [inet N arcs], 0⟩) (fun k => k ≤ sup.length ∧ ∀ j : Nat, j < k → valTo arcs j other arcs.length = sup.getD j 0) (fun k => sup.length - k) 0 (by simp) ?_ ?_
            · unfold inet
              simp -implicitDefEqProofs only [zO, List.getElem?_cons_zero, ↓reduceIte, Nat.reduceEqDiff, zY, leE, leH, leB, leV, leVs, keepP, liveP, wfE, wfB, wfV, wfL, Bool.and_self, and_self, leVs, leV, Int.natCast_zero]
            rintro k ⟨hk, hvk⟩
            unfold inet
            simp -implicitDefEqProofs only [qE, qF, qI, qJ, qK, qM, qN, qO, qP, qR, qV, qY, qZ, zD, zI, zK, zL, zO, ofConst, List.length_nil, List.length_cons, zP, List.getD_eq_getElem?_getD, List.getElem?_cons_zero, ↓reduceIte, Nat.reduceEqDiff, Option.getD_some, zQ, zS, List.nil_append, List.append_nil, Nat.zero_add, Nat.reduceAdd, zX, resP, tupV, List.reverse_cons, List.reverse_nil, wfV, List.map_cons, List.map_nil, List.drop_zero, List.take_nil, true_and, V.v.injEq, Value.int.injEq, Value.bool.injEq, List.length_map, Bool.false_eq_true, Nat.le_refl, kc, kh, jk, ↓jl, ↓jn, ↓jo, ↓jp, ↓jt, ↓ju, ↓jD, ↓qaN, List.length_map, List.getElem_map, encI_0, Int.toNat_natCast]
            simp only [br, decide_eq_true_eq, decide_eq_false_iff_not]
            refine ⟨fun h => ⟨⟨by omega, h⟩, by omega, ?_⟩, fun h => ?_⟩
            · have hkl : k < sup.length := by omega
              have hgk : sup.getD k 0 = sup[k] := by rw [List.getD_eq_getElem?_getD, List.getElem?_eq_getElem hkl]; rfl
              refine call_is (ok15 N k arcs other hP.1 (by omega) hN.2 (hV.flow hP.1 hP.2) (fun a ha => (hV.ha a ha).1) (by omega)) ?_ rfl ?_
              · simp [net, li, lendsOk, lendOk, lends, lend, wkL, wk, wkB, pos]
              by_cases he : valTo arcs k other arcs.length = sup[k]
              · have hne : (valTo arcs k other arcs.length != sup[k]) = false := by simp [he]
                simp -implicitDefEqProofs only [qE, qF, qJ, qO, qP, qR, qZ, zI, zK, zL, zO, ofConst, List.length_nil, List.length_cons, List.getElem?_cons_zero, ↓reduceIte, Nat.reduceEqDiff, zQ, zS, ↓zU, List.append_nil, Nat.zero_add, zY, leE, leH, leB, leV, leVs, keepP, liveP, wfE, wfB, wfV, wfL, Bool.and_true, Bool.and_self, true_and, and_true, and_self, V.v.injEq, Value.int.injEq, Value.bool.injEq, jk, ↓qaF, ↓qaM, hne]
                refine ⟨by simp only [lo, hi]; omega, k + 1, ⟨⟨by omega, fun j hj => ?_⟩, by omega⟩, by simp⟩
                by_cases e : j = k
                · subst e; rw [he]; exact hgk.symm
                · exact hvk j (by omega)
              · have hne : (valTo arcs k other arcs.length != sup[k]) = true := by simp [he]
                simp -implicitDefEqProofs only [qF, qI, qJ, qO, qP, qR, qZ, zD, zI, zK, zO, List.length_nil, List.length_cons, ↓reduceIte, Nat.reduceEqDiff, zQ, zS, ↓zT, List.append_nil, Nat.zero_add, List.map_nil, true_and, jk, ↓qaM, hne]
                refine call_is sanOk ?_ rfl ?_
                · simp [lendsOk, lendOk, lends, lend, wkL, wk, wkB, pos]
                simp -implicitDefEqProofs only [qN, qO, qP, qR, zI, zK, zO, ↓reduceIte, List.nil_append, zX, resP, tupV, List.reverse_cons, List.reverse_nil, wfV, Bool.and_self, and_self]
            · have hke : k = N := by omega
              subst hke
              have z1 := serve_sum hV hP.1 hP.2 hvk
              have z2 := serve_no hV hP.1 hP.2 hvk c
              have z3 := hno z1
              exact absurd z2 (by omega)
        · refine call_is (ok21 N arcs other) ?_ rfl ?_
          · simp [net, li, lendsOk, lendOk, lends, lend, wkL, wk, wkB, pos]
          cases hp : possB arcs other with
          | false =>
            simp -implicitDefEqProofs only [qF, qI, qJ, qO, qP, zd, zD, zI, zK, zO, List.length_nil, List.length_cons, ↓reduceIte, zR, zS, Bool.not_false, ↓zT, List.append_nil, Nat.zero_add, List.map_nil, jk]
            refine call_is sanOk ?_ rfl ?_
            · simp [lendsOk, lendOk, lends, lend, wkL, wk, wkB, pos]
            simp -implicitDefEqProofs only [qN, qO, qP, qR, zI, zK, zO, ↓reduceIte, List.nil_append, zX, resP, tupV, List.reverse_cons, List.reverse_nil, wfV, Bool.and_self, and_self]
          | true =>
            simp -implicitDefEqProofs only [qE, qF, qI, qJ, qK, qL, qO, qP, qR, zb, zd, zI, zK, zL, zO, ofConst, List.length_nil, List.length_cons, ↓reduceIte, Nat.reduceEqDiff, zR, zS, Bool.not_true, ↓zU, List.append_nil, Nat.zero_add, List.length_map, jk, ↓jI, List.length_map, cx0_fx]
            have hP := possOf hp
            intro _
            refine loopP_intro (fun k : Nat => ⟨[(129, .i k), (128, .i sup.length), (127, .ro 1 (sup.map encI)), (3, .ptr 0 0 0), (2, .ro 1 (other.map encI)), (1, .ro 1 (sup.map encI))], [inet N arcs], 0⟩) (fun k => k ≤ sup.length ∧ ∀ j : Nat, j < k → valTo arcs j other arcs.length = sup.getD j 0) (fun k => sup.length - k) 0 (by simp) ?_ ?_
            · unfold inet
              simp -implicitDefEqProofs only [zO, List.getElem?_cons_zero, ↓reduceIte, Nat.reduceEqDiff, zY, leE, leH, leB, leV, leVs, keepP, liveP, wfE, wfB, wfV, wfL, Bool.and_self, and_self, leVs, leV, Int.natCast_zero]
            rintro k ⟨hk, hvk⟩
            unfold inet
            simp -implicitDefEqProofs only [qE, qF, qI, qJ, qK, qM, qN, qO, qP, qR, qV, qY, qZ, zD, zI, zK, zL, zO, ofConst, List.length_nil, List.length_cons, zP, List.getD_eq_getElem?_getD, List.getElem?_cons_zero, ↓reduceIte, Nat.reduceEqDiff, Option.getD_some, zQ, zS, List.nil_append, List.append_nil, Nat.zero_add, Nat.reduceAdd, zX, resP, tupV, List.reverse_cons, List.reverse_nil, wfV, List.map_cons, List.map_nil, List.drop_zero, List.take_nil, true_and, V.v.injEq, Value.int.injEq, Value.bool.injEq, List.length_map, Bool.false_eq_true, Nat.le_refl, kc, kh, jk, ↓jl, ↓jn, ↓jo, ↓jp, ↓jt, ↓ju, ↓jD, ↓qaN, List.length_map, List.getElem_map, encI_0, Int.toNat_natCast]
            simp only [br, decide_eq_true_eq, decide_eq_false_iff_not]
            refine ⟨fun h => ⟨⟨by omega, h⟩, by omega, ?_⟩, fun h => ?_⟩
            · have hkl : k < sup.length := by omega
              have hgk : sup.getD k 0 = sup[k] := by rw [List.getD_eq_getElem?_getD, List.getElem?_eq_getElem hkl]; rfl
              refine call_is (ok15 N k arcs other hP.1 (by omega) hN.2 (hV.flow hP.1 hP.2) (fun a ha => (hV.ha a ha).1) (by omega)) ?_ rfl ?_
              · simp [net, li, lendsOk, lendOk, lends, lend, wkL, wk, wkB, pos]
              by_cases he : valTo arcs k other arcs.length = sup[k]
              · have hne : (valTo arcs k other arcs.length != sup[k]) = false := by simp [he]
                simp -implicitDefEqProofs only [qE, qF, qJ, qO, qP, qR, qZ, zI, zK, zL, zO, ofConst, List.length_nil, List.length_cons, List.getElem?_cons_zero, ↓reduceIte, Nat.reduceEqDiff, zQ, zS, ↓zU, List.append_nil, Nat.zero_add, zY, leE, leH, leB, leV, leVs, keepP, liveP, wfE, wfB, wfV, wfL, Bool.and_true, Bool.and_self, true_and, and_true, and_self, V.v.injEq, Value.int.injEq, Value.bool.injEq, jk, ↓qaF, ↓qaM, hne]
                refine ⟨by simp only [lo, hi]; omega, k + 1, ⟨⟨by omega, fun j hj => ?_⟩, by omega⟩, by simp⟩
                by_cases e : j = k
                · subst e; rw [he]; exact hgk.symm
                · exact hvk j (by omega)
              · have hne : (valTo arcs k other arcs.length != sup[k]) = true := by simp [he]
                simp -implicitDefEqProofs only [qF, qI, qJ, qO, qP, qR, qZ, zD, zI, zK, zO, List.length_nil, List.length_cons, ↓reduceIte, Nat.reduceEqDiff, zQ, zS, ↓zT, List.append_nil, Nat.zero_add, List.map_nil, true_and, jk, ↓qaM, hne]
                refine call_is sanOk ?_ rfl ?_
                · simp [lendsOk, lendOk, lends, lend, wkL, wk, wkB, pos]
                simp -implicitDefEqProofs only [qN, qO, qP, qR, zI, zK, zO, ↓reduceIte, List.nil_append, zX, resP, tupV, List.reverse_cons, List.reverse_nil, wfV, Bool.and_self, and_self]
            · have hke : k = N := by omega
              subst hke
              have z1 := serve_sum hV hP.1 hP.2 hvk
              have z2 := serve_no hV hP.1 hP.2 hvk c
              have z3 := hno z1
              exact absurd z2 (by omega)
    · have hln : ((sup.length : Int) != N) = true := by simp [hl]
      simp -implicitDefEqProofs only [↓zT, hln]
      refine call_is sanOk ?_ rfl ?_
      · simp [lendsOk, lendOk, lends, lend, wkL, wk, wkB, pos]
      simp -implicitDefEqProofs only [qN, qO, qP, qR, zI, zK, zO, ↓reduceIte, List.nil_append, zX, resP, tupV, List.reverse_cons, List.reverse_nil, wfV, Bool.and_self, and_self]
theorem fn6 : ∀ xs, WfA [.st [.int .i64, .sl 4 (.st [.int .i64, .int .i64, .int .i64, .int .i64])], .sl 1 (.int .i64), .sl 1 (.int .i64)] xs → Fn Try.prog 6 xs [] [] (fun r _ => r = .b true) := by
  intro xs h
  obtain ⟨x1, _, rfl, h1, h⟩ := h
  obtain ⟨x2, _, rfl, h2, h⟩ := h
  obtain ⟨x3, _, rfl, h3, h⟩ := h
  obtain rfl : _ = [] := h
  obtain ⟨n, arcs, rfl⟩ := wf_net h1
  obtain ⟨sup, rfl⟩ := wf_li h2
  obtain ⟨other, rfl⟩ := wf_li h3
  exact Fn_post (ok6 n arcs sup other).2 fun r h' h => h.1
end Go.Fx.F
