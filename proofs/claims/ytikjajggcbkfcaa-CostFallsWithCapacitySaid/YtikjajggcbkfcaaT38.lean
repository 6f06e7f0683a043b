import Derived.Test.YtikjajggcbkfcaaFxRunSound
import Derived.Test.YtikjajggcbkfcaaCSan
set_option linter.unusedVariables false
set_option linter.unusedSimpArgs false
set_option linter.unusedSectionVars false
namespace Go.Fx.C
open Go Go.Fx Go.Proofs
set_option maxRecDepth 20000
theorem ok9 : Ok 9 [] (Is (.b true)) := san
theorem few_val {n most : Int} {arcs : List Arc} (h : fewB n arcs most = true) : ∃ N : Nat, n = N ∧ Val N arcs ∧ N ≤ 12 ∧ arcs.length ≤ 30 := by
  simp only [fewB, Bool.and_eq_true, decide_eq_true_eq] at h
  obtain ⟨N, rfl, hV⟩ := Val.of h.1.2.2
  exact ⟨N, rfl, hV, by omega, by omega⟩
theorem task_in {n f t am : Int} {arcs : List Arc} (h : taskB n arcs f t am = true) : (0 ≤ f ∧ f < n) ∧ (0 ≤ t ∧ t < n) ∧ f ≠ t ∧ 0 ≤ am ∧ am ≤ 2199023255552 := by
  simp only [taskB, taskP, Bool.and_eq_true, decide_eq_true_eq] at h
  exact h.2
theorem ok5 (n : Int) (arcs : List Arc) (f t am : Int) (fr : Fr) : Ok 5 [net n arcs, .i f, .i t, .i am, fr.enc] (Is (.b true)) := by
  refine ok_of lw5 (by simp) ?_
  unfold c5 net Fr.enc li
  simp -implicitDefEqProofs only [qF, qI, qO, qP, qR, qT, qV, zD, zH, zJ, zK, zN, ofConst, cells?, List.length_nil, List.length_cons, List.set_cons_zero, zO, List.getD_eq_getElem?_getD, List.getElem?_cons_zero, ↓reduceIte, Nat.reduceEqDiff, Option.getD_some, List.nil_append, List.append_nil, Nat.zero_add, Nat.reduceAdd, Nat.add_zero, reduceCtorEq, freshP, List.map_cons, List.map_nil, List.drop_zero, List.take_nil, true_and, Nat.le_refl, lg0, zY, ka, kc, ki, kj, jq, ↓jr, ↓ju, ↓jx, ↓jB, cxN, args0]
  refine call_is (ok14 n 1073741824 arcs) (by simp [net, lendsOk, lendOk, lends, lend, wkL, wk, wkR]) rfl trivial ?_
  cases hfew : fewB n arcs 1073741824 with
  | false =>
    simp -implicitDefEqProofs only [qF, qI, qJ, qO, qP, qQ, qR, qS, zd, zD, zH, zJ, zK, zN, ofConst, List.length_nil, List.length_cons, ↓reduceIte, Nat.reduceEqDiff, zQ, zR, Bool.not_false, ↓zS, zU, List.append_nil, Nat.zero_add, Nat.reduceAdd, List.map_nil, Bool.false_eq_true, jq]
    refine call_is ok9 (by simp [lendsOk, lends, wkL]) rfl trivial ?_
    simp -implicitDefEqProofs only [qN, qO, qP, qR, zH, zJ, zN, ↓reduceIte, List.nil_append, zW, resP, tupV, List.reverse_cons, List.reverse_nil, wfV, Bool.and_self, and_self]
  | true =>
  obtain ⟨N, rfl, hV, _⟩ := few_val hfew
  simp -implicitDefEqProofs only [qF, qI, qO, qP, qQ, qR, qV, zd, zD, zH, zJ, zN, List.length_nil, List.length_cons, zO, List.getD_eq_getElem?_getD, List.getElem?_cons_zero, ↓reduceIte, Nat.reduceEqDiff, Option.getD_some, zQ, Bool.not_true, ↓zT, zU, List.append_nil, Nat.zero_add, Nat.reduceAdd, reduceCtorEq, List.map_cons, List.map_nil, List.drop_zero, List.take_nil, true_and, Bool.false_eq_true, Nat.le_refl, ka, ki, jq, ↓ju, ↓jx, ↓jB]
  refine call_is (ok12 N arcs f t am) (by simp [net, lendsOk, lendOk, lends, lend, wkL, wk, wkR]) rfl trivial ?_
  cases ht : taskB N arcs f t am with
  | false =>
    simp -implicitDefEqProofs only [qF, qI, qJ, qO, qP, qQ, qR, qS, zd, zD, zH, zJ, zK, zN, ofConst, List.length_nil, List.length_cons, ↓reduceIte, Nat.reduceEqDiff, zQ, zR, Bool.not_false, ↓zS, ↓zT, zU, List.append_nil, Nat.zero_add, Nat.reduceAdd, List.map_nil, Bool.false_eq_true, jq]
    refine call_is ok9 (by simp [lendsOk, lends, wkL]) rfl trivial ?_
    simp -implicitDefEqProofs only [qN, qO, qP, qR, zH, zJ, zN, ↓reduceIte, List.nil_append, zW, resP, tupV, List.reverse_cons, List.reverse_nil, wfV, Bool.and_self, and_self]
  | true =>
  have hT := task_in ht
  simp -implicitDefEqProofs only [qx, qz, qC, qE, qF, qI, qJ, qO, qP, qQ, qR, qS, qV, qX, qZ, zb, zd, zD, zH, zJ, zK, zN, ofConst, List.length_nil, List.length_cons, zO, List.getD_eq_getElem?_getD, List.getElem?_cons_zero, ↓reduceIte, Nat.reduceEqDiff, Option.getD_some, zP, zQ, zR, Bool.not_true, Bool.not_false, ↓zS, ↓zT, zU, List.append_nil, Nat.zero_add, Nat.reduceAdd, List.map_nil, Bool.and_true, true_and, and_true, List.length_map, Bool.false_eq_true, lg0, lg1, lg2, lg3, jq, ↓jr, ↓ju, ↓jx, ↓jA, ↓jG, ↓jO, ↓qaV, List.length_map]
  simp only [br, decide_eq_true_eq, decide_eq_false_iff_not]
  have s9 : ∀ {cx : Cx} {e : Env} {h : List Blk} {b : Nat} {K : V → St → Prop}, cx.C = C0 Try.prog → cx.fx = [] → K (.b true) ⟨e, h, b⟩ → callP cx 9 [] ⟨e, h, b⟩ K := by
    intro cx e h b K hc hf hk
    exact call_is (by rw [hc]; exact ok9) (by simp [lendsOk, lends, wkL]) rfl (by rw [hf]; trivial) hk
  refine fun _ => ⟨fun _ => ?_, fun _ _ => ⟨fun _ => ?_, fun _ _ => ⟨fun _ => ?_, fun _ => ?_⟩⟩⟩
  · refine s9 rfl rfl ?_
    simp -implicitDefEqProofs only [qN, qO, qP, qR, zH, zJ, zN, ↓reduceIte, List.nil_append, zW, resP, tupV, List.reverse_cons, List.reverse_nil, wfV, Bool.and_self, and_self]
  · refine s9 rfl rfl ?_
    simp -implicitDefEqProofs only [qN, qO, qP, qR, zH, zJ, zN, ↓reduceIte, List.nil_append, zW, resP, tupV, List.reverse_cons, List.reverse_nil, wfV, Bool.and_self, and_self]
  · refine s9 rfl rfl ?_
    simp -implicitDefEqProofs only [qN, qO, qP, qR, zH, zJ, zN, ↓reduceIte, List.nil_append, zW, resP, tupV, List.reverse_cons, List.reverse_nil, wfV, Bool.and_self, and_self]
  refine s9 rfl rfl ?_
  simp -implicitDefEqProofs only [qa, qw, rdK, qz, qA, qB, qD, qR, qV, zD, zH, zJ, zN, List.length_nil, List.length_cons, zO, List.getD_eq_getElem?_getD, List.getElem?_cons_zero, ↓reduceIte, Nat.reduceEqDiff, Option.getD_some, ↓zS, zU, Nat.zero_add, Nat.reduceAdd, reduceCtorEq, List.map_cons, List.map_nil, List.drop_zero, List.take_nil, Bool.and_true, true_and, and_true, Nat.le_refl, lg0, ka, ki, ko, kx, kB, ↓ju, ↓jx, ↓jB]
  refine call_is (ok17 N arcs f t am fr hV hT.1 hT.2.1) (by simp [Fr.enc, net, li, lendsOk, lendOk, lends, lend, wkL, wk, wkR]) rfl trivial ?_
  simp -implicitDefEqProofs only [qz, qD, zD, zH, zJ, zN, ↓reduceIte, Nat.reduceEqDiff, ↓zS, zU, List.map_cons, List.map_nil, Bool.and_true, and_true, Bool.false_eq_true]
  refine call_is (ok16 N arcs f t am fr hV hT.1) (by simp [Fr.enc, net, li, lendsOk, lendOk, lends, lend, wkL, wk, wkR]) rfl trivial ?_
  simp -implicitDefEqProofs only [qa, qb, qe, qy, qA, qB, qN, qR, qS, qZ, zH, zJ, zN, ↓reduceIte, Nat.reduceEqDiff, zP, zR, ↓zS, zU, List.nil_append, zW, resP, tupV, List.reverse_cons, List.reverse_nil, wfV, true_and, V.v.injEq, Value.int.injEq, Value.bool.injEq, ↓qaR]
  simp
end Go.Fx.C
namespace Go.Fx.C
open Go Go.Fx Go.Proofs
set_option maxRecDepth 20000
theorem call9 {cx : Cx} {e : Env} {h : List Blk} {b : Nat} {K : V → St → Prop} (hc : cx.C = C0 Try.prog) (hf : cx.fx = []) (hk : K (.b true) ⟨e, h, b⟩) : callP cx 9 [] ⟨e, h, b⟩ K :=
  call_is (by rw [hc]; exact ok9) (by simp [lendsOk, lends, wkL]) rfl (by rw [hf]; trivial) hk
theorem ok7 (n : Int) (arcs : List Arc) (f t am : Int) (fr : Fr) (g : List Int) : Ok 7 [net n arcs, .i f, .i t, .i am, fr.enc, li g] (Is (.b true)) := by
  refine ok_of lw7 (by simp) ?_
  unfold c7 net Fr.enc li
  simp -implicitDefEqProofs only [qF, qI, qO, qP, qR, qT, qV, zD, zH, zJ, zK, zN, ofConst, cells?, List.length_nil, List.length_cons, List.set_cons_zero, zO, List.getD_eq_getElem?_getD, List.getElem?_cons_zero, ↓reduceIte, Nat.reduceEqDiff, Option.getD_some, List.nil_append, List.append_nil, Nat.zero_add, Nat.reduceAdd, Nat.add_zero, reduceCtorEq, freshP, List.map_cons, List.map_nil, List.drop_zero, List.take_nil, true_and, Nat.le_refl, lg0, zY, ka, kc, ki, kj, jq, ↓jr, ↓ju, ↓jx, ↓jB, cxN, args0]
  refine call_is (ok14 n 1073741824 arcs) (by simp [net, lendsOk, lendOk, lends, lend, wkL, wk, wkR]) rfl trivial ?_
  cases hfew : fewB n arcs 1073741824 with
  | false =>
    simp -implicitDefEqProofs only [qF, qI, qJ, qO, qP, qQ, qR, qS, zd, zD, zH, zJ, zK, zN, ofConst, List.length_nil, List.length_cons, ↓reduceIte, Nat.reduceEqDiff, zQ, zR, Bool.not_false, ↓zS, zU, List.append_nil, Nat.zero_add, Nat.reduceAdd, List.map_nil, Bool.false_eq_true, jq]
    refine call9 rfl rfl ?_
    simp -implicitDefEqProofs only [qN, qO, qP, qR, zH, zJ, zN, ↓reduceIte, List.nil_append, zW, resP, tupV, List.reverse_cons, List.reverse_nil, wfV, Bool.and_self, and_self]
  | true =>
  obtain ⟨N, rfl, hV, _, hL⟩ := few_val hfew
  simp -implicitDefEqProofs only [qF, qI, qO, qP, qQ, qR, qV, zd, zD, zH, zJ, zN, List.length_nil, List.length_cons, zO, List.getD_eq_getElem?_getD, List.getElem?_cons_zero, ↓reduceIte, Nat.reduceEqDiff, Option.getD_some, zQ, Bool.not_true, ↓zT, zU, List.append_nil, Nat.zero_add, Nat.reduceAdd, reduceCtorEq, List.map_cons, List.map_nil, List.drop_zero, List.take_nil, true_and, Bool.false_eq_true, Nat.le_refl, ka, ki, jq, ↓ju, ↓jx, ↓jB]
  refine call_is (ok12 N arcs f t am) (by simp [net, lendsOk, lendOk, lends, lend, wkL, wk, wkR]) rfl trivial ?_
  cases ht : taskB N arcs f t am with
  | false =>
    simp -implicitDefEqProofs only [qF, qI, qJ, qO, qP, qQ, qR, qS, zd, zD, zH, zJ, zK, zN, ofConst, List.length_nil, List.length_cons, ↓reduceIte, Nat.reduceEqDiff, zQ, zR, Bool.not_false, ↓zS, ↓zT, zU, List.append_nil, Nat.zero_add, Nat.reduceAdd, List.map_nil, Bool.false_eq_true, jq]
    refine call9 rfl rfl ?_
    simp -implicitDefEqProofs only [qN, qO, qP, qR, zH, zJ, zN, ↓reduceIte, List.nil_append, zW, resP, tupV, List.reverse_cons, List.reverse_nil, wfV, Bool.and_self, and_self]
  | true =>
  obtain ⟨hf, ht, hft, ham⟩ := task_in ht
  simp -implicitDefEqProofs only [qP, qQ, qR, qS, qV, zd, zD, zH, zJ, zN, List.length_nil, List.length_cons, zO, List.getD_eq_getElem?_getD, List.getElem?_cons_zero, ↓reduceIte, Nat.reduceEqDiff, Option.getD_some, zQ, zR, Bool.not_true, ↓zT, zU, Nat.zero_add, Nat.reduceAdd, reduceCtorEq, List.map_cons, List.map_nil, List.drop_zero, List.take_nil, true_and, Bool.false_eq_true, Nat.le_refl, ka, ki, ↓ju, ↓jx, ↓jB]
  refine call_is (ok20 N arcs f t g hV) (by simp [net, li, lendsOk, lendOk, lends, lend, wkL, wk, wkR]) rfl trivial ?_
  cases hg : flB N arcs f t g with
  | false =>
    simp -implicitDefEqProofs only [qF, qI, qJ, qO, qP, qQ, qS, zd, zD, zH, zJ, zN, List.length_nil, List.length_cons, ↓reduceIte, Nat.reduceEqDiff, zQ, zR, Bool.not_false, ↓zS, ↓zT, zU, List.append_nil, Nat.zero_add, Nat.reduceAdd, List.map_nil, Bool.false_eq_true, jq]
    refine call9 rfl rfl ?_
    simp -implicitDefEqProofs only [qN, qO, qP, qR, zH, zJ, zN, ↓reduceIte, List.nil_append, zW, resP, tupV, List.reverse_cons, List.reverse_nil, wfV, Bool.and_self, and_self]
  | true =>
  have hg : OkF N arcs f t g := by
    apply Classical.byContradiction
    intro h
    have := flB_f h; rw [hg] at this; cases this
  have hgb := hV.flow hg.hl hg.hp
  simp -implicitDefEqProofs only [qE, qF, qI, qJ, qO, qP, qQ, qR, qS, qV, zd, zD, zH, zJ, zN, List.length_nil, List.length_cons, zO, List.getD_eq_getElem?_getD, List.getElem?_cons_zero, ↓reduceIte, Nat.reduceEqDiff, Option.getD_some, zQ, zR, Bool.not_true, ↓zT, zU, List.append_nil, Nat.zero_add, Nat.reduceAdd, reduceCtorEq, List.map_cons, List.map_nil, List.drop_zero, List.take_nil, true_and, Bool.false_eq_true, Nat.le_refl, lg0, ka, ki, ko, kx, kB, jq, ↓ju, ↓jx, ↓jB]
  refine call_is (ok17 N arcs f t am fr hV hf ht) (by simp [Fr.enc, net, li, lendsOk, lendOk, lends, lend, wkL, wk, wkR]) rfl trivial ?_
  simp -implicitDefEqProofs only [qE, qF, qI, qJ, qO, qP, qR, qV, qZ, zD, zH, zJ, zK, zN, ofConst, List.length_nil, List.length_cons, zO, List.getD_eq_getElem?_getD, List.getElem?_cons_zero, ↓reduceIte, Nat.reduceEqDiff, Option.getD_some, zP, zR, List.append_nil, Nat.zero_add, Nat.reduceAdd, reduceCtorEq, List.map_cons, List.map_nil, List.drop_zero, List.take_nil, true_and, Nat.le_refl, ka, ki, jq, ↓ju, ↓jx, ↓jB, ↓qaS]
  simp only [br, bne_iff_ne, bne_eq_false_iff_eq]
  refine ⟨fun _ => ?_, fun hacc => ?_⟩
  · refine call9 rfl rfl ?_
    simp -implicitDefEqProofs only [qN, qO, qP, qR, zH, zJ, zN, ↓reduceIte, List.nil_append, zW, resP, tupV, List.reverse_cons, List.reverse_nil, wfV, Bool.and_self, and_self]
  have hO : OkAc N arcs f t am fr := by
    apply Classical.byContradiction
    intro h
    have := accI_f h; omega
  refine call_is (ok21 N f arcs g hg.hl (by omega) hgb) (by simp [net, li, lendsOk, lendOk, lends, lend, wkL, wk, wkR]) rfl trivial ?_
  simp -implicitDefEqProofs only [qa, qb, qc, qe, qw, rdK, qx, qy, qz, qA, qB, qD, qE, qF, qI, qJ, qO, qP, qR, qS, qV, qX, qZ, zD, zH, zJ, zK, zN, ofConst, List.length_nil, List.length_cons, zO, List.getD_eq_getElem?_getD, List.getElem?_cons_zero, ↓reduceIte, Nat.reduceEqDiff, Option.getD_some, zP, zR, Bool.not_true, ↓zS, ↓zT, zU, List.append_nil, Nat.zero_add, Nat.reduceAdd, Nat.add_zero, reduceCtorEq, List.map_cons, List.map_nil, List.drop_zero, List.take_nil, Bool.and_true, true_and, and_true, Nat.le_refl, lg0, ka, ki, jq, ↓jr, ↓ju, ↓jx, ↓jA, ↓jB, ↓jG, ↓qaR]
  have hch := cheaper hV hf ht hft hO.fl hg hO.hp.slack
  have hle : valTo arcs f g arcs.length = fr.sent → fr.cost ≤ totTo arcs g arcs.length := by
    intro h
    rw [h, hO.hv, Int.sub_self, Int.mul_zero, hO.ht] at hch
    omega
  have hcm : fr.sent ≠ am → valTo arcs f g arcs.length ≤ fr.sent := by
    intro h
    have hc := hO.hc
    rw [if_neg h] at hc
    have := cut_most hV hf ht hft hO.fl hg (fun v => hasB fr.cut v) (by rw [Int.toNat_of_nonneg hf.1]; exact hc.hf) (by rw [Int.toNat_of_nonneg ht.1]; exact hc.ht) (hc.cut hV hf ht)
    rw [hO.hv] at this
    exact this
  simp only [br, beq_iff_eq, beq_eq_false_iff_ne]
  refine ⟨fun h1 => ?_, fun h1 => ?_⟩
  · refine call_is (ok22 N arcs g hg.hl (by omega) hgb fun a ha => (hV.ha a ha).2.2.2.2) (by simp [net, li, lendsOk, lendOk, lends, lend, wkL, wk, wkR]) rfl trivial ?_
    simp -implicitDefEqProofs only [qb, qe, qy, qA, qB, qE, qF, qI, qJ, qN, qO, qP, qR, qS, qZ, zD, zH, zJ, zK, zN, ofConst, List.length_nil, List.length_cons, ↓reduceIte, Nat.reduceEqDiff, zP, zR, ↓zS, zU, List.nil_append, List.append_nil, Nat.zero_add, Nat.reduceAdd, zW, resP, tupV, List.reverse_cons, List.reverse_nil, wfV, List.map_nil, true_and, V.v.injEq, Value.int.injEq, Value.bool.injEq, Bool.false_eq_true, jq, ↓qaT]
    simp only [br, decide_eq_true_eq, decide_eq_false_iff_not]
    refine ⟨fun h2 => absurd (hle h1) (by omega), fun _ => ?_⟩
    refine call9 rfl rfl ?_
    simp -implicitDefEqProofs only [qN, qO, qP, qQ, qR, qS, qV, qX, qZ, zH, zJ, zK, zN, ofConst, zO, List.getD_eq_getElem?_getD, List.getElem?_cons_zero, ↓reduceIte, Nat.reduceEqDiff, Option.getD_some, zP, zR, Bool.not_false, ↓zS, ↓zT, zU, List.nil_append, Nat.add_zero, reduceCtorEq, zW, resP, tupV, List.reverse_cons, List.reverse_nil, wfV, Bool.and_self, true_and, and_self, V.v.injEq, Value.int.injEq, Value.bool.injEq, Bool.false_eq_true, lg0, ↓jr, ↓ju, ↓jx, ↓jA, ↓jG, ↓qaR, ↓qaU]
    simp only [br, beq_iff_eq, beq_eq_false_iff_ne, decide_eq_true_eq]
    exact ⟨fun _ => trivial, fun h => hcm h⟩
  · refine call9 rfl rfl ?_
    simp -implicitDefEqProofs only [qN, qO, qP, qQ, qR, qS, qV, qX, qZ, zH, zJ, zK, zN, ofConst, zO, List.getD_eq_getElem?_getD, List.getElem?_cons_zero, ↓reduceIte, Nat.reduceEqDiff, Option.getD_some, zP, zR, Bool.not_false, ↓zS, ↓zT, zU, List.nil_append, Nat.add_zero, reduceCtorEq, zW, resP, tupV, List.reverse_cons, List.reverse_nil, wfV, Bool.and_self, true_and, and_self, V.v.injEq, Value.int.injEq, Value.bool.injEq, Bool.false_eq_true, lg0, ↓jr, ↓ju, ↓jx, ↓jA, ↓jG, ↓qaR, ↓qaU]
    simp only [br, beq_iff_eq, beq_eq_false_iff_ne, decide_eq_true_eq]
    exact ⟨fun _ => trivial, fun h => hcm h⟩
end Go.Fx.C
namespace Go.Fx.C
open Go Go.Fx Go.Proofs
set_option maxRecDepth 20000
def noFr : V := .agg [.i 0, .i 0, .nil, .nil, .nil]
theorem ok13e (n : Int) (arcs : List Arc) (f t am : Int) (hc : checkI n arcs ≠ 0) : Ok 13 [net n arcs, .i f, .i t, .i am] (Is (.tup [noFr, .i (checkI n arcs)])) := by
  refine ok_of lw13 (by simp) ?_
  unfold c13 net
  simp -implicitDefEqProofs only [qF, qI, qO, qP, qR, qT, qU, qV, zD, zH, zJ, zK, zN, ofConst, cells?, List.length_nil, List.length_cons, List.set_cons_zero, zO, List.getD_eq_getElem?_getD, List.getElem?_cons_zero, ↓reduceIte, Nat.reduceEqDiff, Option.getD_some, List.nil_append, List.append_nil, Nat.zero_add, Nat.reduceAdd, Nat.add_zero, freshP, List.map_cons, List.map_nil, List.drop_zero, List.take_nil, true_and, Nat.le_refl, lg0, zY, ka, kc, ki, kj, jq, ↓jr, ↓ju, ↓jx, ↓jB, cxN, args0]
  refine call_is (ok11 n arcs) (by simp [net, lendsOk, lendOk, lends, lend, wkL, wk, wkR]) rfl trivial ?_
  have hb : (checkI n arcs != 0) = true := by simpa using hc
  simp -implicitDefEqProofs only [qE, qF, qI, qJ, qN, qO, qP, qR, qV, qW, qZ, zk, zD, zH, zI, zJ, zK, zN, ofConst, cells?, List.length_nil, List.length_cons, List.set_cons_zero, splice, zO, List.getD_eq_getElem?_getD, List.getElem?_cons_zero, ↓reduceIte, Nat.reduceEqDiff, Option.getD_some, zP, zR, ↓zS, List.nil_append, List.cons_append, List.append_nil, Nat.zero_add, Nat.reduceAdd, Nat.add_zero, reduceCtorEq, buildP, zW, resP, tupV, List.reverse_cons, List.reverse_nil, wfV, wfL, List.map_cons, List.map_nil, List.drop_zero, List.take_zero, List.take_nil, List.drop_nil, List.all_cons, List.all_nil, isC, Bool.and_true, Bool.and_self, true_and, and_true, and_self, List.not_mem_nil, List.length_append, not_false_eq_true, Nat.le_refl, lg0, zY, zZ, ka, kh, ki, kn, ko, kw, kx, kA, kB, jq, ↓jr, ↓ju, ↓jx, ↓jB, ↓jC, ↓jD, ↓qaS, hb]
  rfl
theorem ok13t (n : Int) (arcs : List Arc) (f t am : Int) (hc : checkI n arcs = 0) (ht : taskP n f t am = false) : Ok 13 [net n arcs, .i f, .i t, .i am] (Is (.tup [noFr, .i 1])) := by
  refine ok_of lw13 (by simp) ?_
  unfold c13 net
  simp -implicitDefEqProofs only [qF, qI, qO, qP, qR, qT, qU, qV, zD, zH, zJ, zK, zN, ofConst, cells?, List.length_nil, List.length_cons, List.set_cons_zero, zO, List.getD_eq_getElem?_getD, List.getElem?_cons_zero, ↓reduceIte, Nat.reduceEqDiff, Option.getD_some, List.nil_append, List.append_nil, Nat.zero_add, Nat.reduceAdd, Nat.add_zero, freshP, List.map_cons, List.map_nil, List.drop_zero, List.take_nil, true_and, Nat.le_refl, lg0, zY, ka, kc, ki, kj, jq, ↓jr, ↓ju, ↓jx, ↓jB, cxN, args0]
  refine call_is (ok11 n arcs) (by simp [net, lendsOk, lendOk, lends, lend, wkL, wk, wkR]) rfl trivial ?_
  simp -implicitDefEqProofs only [qE, qF, qI, qJ, qN, qO, qP, qR, qV, qW, qZ, zk, zD, zH, zI, zJ, zK, zN, ofConst, cells?, List.length_nil, List.length_cons, List.set_cons_zero, splice, zO, List.getD_eq_getElem?_getD, List.getElem?_cons_zero, ↓reduceIte, Nat.reduceEqDiff, Option.getD_some, zP, zR, ↓zT, List.nil_append, List.cons_append, List.append_nil, Nat.zero_add, Nat.reduceAdd, Nat.add_zero, reduceCtorEq, buildP, zW, resP, tupV, List.reverse_cons, List.reverse_nil, wfV, wfL, List.map_cons, List.map_nil, List.drop_zero, List.take_zero, List.take_nil, List.drop_nil, List.all_cons, List.all_nil, isC, Bool.and_true, Bool.and_self, true_and, and_true, and_self, List.not_mem_nil, List.length_append, not_false_eq_true, Nat.le_refl, lg0, zY, zZ, ka, kh, ki, kn, ko, kw, kx, kA, kB, jq, ↓jr, ↓ju, ↓jx, ↓jB, ↓jC, ↓jD, ↓qaS, hc, bne_self_eq_false]
  refine call_is (ok26 n arcs f t am) (by simp [net, lendsOk, lendOk, lends, lend, wkL, wk, wkR]) rfl trivial ?_
  simp -implicitDefEqProofs only [qF, qI, qJ, qN, qO, qP, qR, qW, zd, zk, zH, zI, zJ, zK, zN, ofConst, cells?, List.length_nil, List.length_cons, List.set_cons_zero, splice, zO, List.getD_eq_getElem?_getD, List.getElem?_cons_zero, ↓reduceIte, Nat.reduceEqDiff, Option.getD_some, zQ, zR, Bool.not_false, ↓zS, List.nil_append, List.cons_append, List.append_nil, Nat.zero_add, Nat.reduceAdd, Nat.add_zero, buildP, zW, resP, tupV, List.reverse_cons, List.reverse_nil, wfV, wfL, List.map_cons, List.map_nil, List.drop_zero, List.take_zero, List.take_nil, List.drop_nil, List.all_cons, List.all_nil, isC, Bool.and_true, Bool.and_self, true_and, and_true, and_self, List.not_mem_nil, List.length_append, not_false_eq_true, Nat.le_refl, lg0, zY, zZ, ka, kh, ki, kn, ko, kw, kx, kA, kB, jq, ↓jr, ↓ju, ↓jx, ↓jB, ↓jC, ↓jD, ht]
  rfl
theorem ok3 (n : Int) (arcs : List Arc) (f t am : Int) : Ok 3 [net n arcs, .i f, .i t, .i am] (Is (.b true)) := by
  refine ok_of lw3 (by simp) ?_
  unfold c3 net
  simp -implicitDefEqProofs only [qE, qF, qI, qJ, qO, qP, qQ, qR, qS, qT, qV, qX, qZ, zb, zD, zH, zJ, zK, zN, ofConst, cells?, List.length_nil, List.length_cons, List.set_cons_zero, zO, List.getD_eq_getElem?_getD, List.getElem?_cons_zero, ↓reduceIte, Nat.reduceEqDiff, Option.getD_some, zP, zR, Bool.not_false, ↓zS, ↓zT, zU, List.nil_append, List.append_nil, Nat.zero_add, Nat.reduceAdd, Nat.add_zero, freshP, List.map_cons, List.map_nil, List.drop_zero, List.take_nil, true_and, List.length_map, Bool.false_eq_true, Nat.le_refl, lg0, ka, kc, ki, jq, ↓jr, ↓ju, ↓jx, ↓jA, ↓jB, ↓jG, ↓jO, ↓qaV, List.length_map, cxN, args0]
  simp only [br, decide_eq_true_eq, decide_eq_false_iff_not]
  refine ⟨fun _ => ?_, fun _ _ => ⟨fun _ => ?_, fun _ => ?_⟩⟩
  · refine call9 rfl rfl ?_
    simp -implicitDefEqProofs only [qN, qO, qP, qR, zH, zJ, zN, ↓reduceIte, List.nil_append, zW, resP, tupV, List.reverse_cons, List.reverse_nil, wfV, Bool.and_self, and_self]
  · refine call9 rfl rfl ?_
    simp -implicitDefEqProofs only [qN, qO, qP, qR, zH, zJ, zN, ↓reduceIte, List.nil_append, zW, resP, tupV, List.reverse_cons, List.reverse_nil, wfV, Bool.and_self, and_self]
  refine call_is (ok10 n arcs) (by simp [net, lendsOk, lendOk, lends, lend, wkL, wk, wkR]) rfl trivial ?_
  simp -implicitDefEqProofs only [qF, qI, qO, qP, qR, qV, zD, zH, zJ, zN, List.length_nil, List.length_cons, zO, List.getD_eq_getElem?_getD, List.getElem?_cons_zero, ↓reduceIte, Nat.reduceEqDiff, Option.getD_some, List.append_nil, Nat.zero_add, Nat.reduceAdd, List.map_cons, List.map_nil, List.drop_zero, List.take_nil, true_and, Nat.le_refl, ka, ki, jq, ↓ju, ↓jx, ↓jB]
  refine call_is (ok11 n arcs) (by simp [net, lendsOk, lendOk, lends, lend, wkL, wk, wkR]) rfl trivial ?_
  simp -implicitDefEqProofs only [qE, qF, qI, qJ, qO, qP, qQ, qR, qS, qV, qZ, zD, zH, zJ, zK, zN, ofConst, List.length_nil, List.length_cons, zO, List.getD_eq_getElem?_getD, List.getElem?_cons_zero, ↓reduceIte, Nat.reduceEqDiff, Option.getD_some, zP, zR, Bool.not_true, ↓zS, ↓zT, zU, List.nil_append, List.cons_append, List.append_nil, Nat.zero_add, Nat.reduceAdd, reduceCtorEq, List.map_cons, List.map_nil, List.drop_zero, List.take_nil, true_and, Nat.le_refl, ka, kc, ki, jq, ↓ju, ↓jx, ↓jB, ↓qaR, ↓qaS, bne_self_eq_false]
  simp only [br, beq_iff_eq, beq_eq_false_iff_ne]
  refine ⟨fun hc => ?_, fun hc => ?_⟩
  · refine call_is (ok12 n arcs f t am) (by simp [net, lendsOk, lendOk, lends, lend, wkL, wk, wkR]) rfl trivial ?_
    cases ht : taskB n arcs f t am with
    | true =>
      simp -implicitDefEqProofs only [qF, qI, qJ, qO, qP, qS, zD, zH, zJ, zN, List.length_nil, List.length_cons, ↓reduceIte, Nat.reduceEqDiff, zR, ↓zS, List.append_nil, Nat.zero_add, List.map_nil, jq]
      refine call9 rfl rfl ?_
      simp -implicitDefEqProofs only [qN, qO, qP, qR, zH, zJ, zN, ↓reduceIte, List.nil_append, zW, resP, tupV, List.reverse_cons, List.reverse_nil, wfV, Bool.and_self, and_self]
    | false =>
      have ht : taskP n f t am = false := by simpa [taskB, hc] using ht
      simp -implicitDefEqProofs only [qE, qF, qI, qJ, qO, qP, qR, qS, qV, zD, zH, zJ, zN, List.length_nil, List.length_cons, zO, List.getD_eq_getElem?_getD, List.getElem?_cons_zero, ↓reduceIte, Nat.reduceEqDiff, Option.getD_some, zR, ↓zS, ↓zT, List.nil_append, List.cons_append, Nat.zero_add, Nat.reduceAdd, reduceCtorEq, List.map_cons, List.map_nil, List.drop_zero, List.take_nil, true_and, Nat.le_refl, ka, kc, ki, jq, ↓ju, ↓jx, ↓jB]
      refine call_is (ok13t n arcs f t am hc ht) (by simp [net, lendsOk, lendOk, lends, lend, wkL, wk, wkR]) (by simp [noFr, ren, rens]) trivial ?_
      simp -implicitDefEqProofs only [qE, qF, qI, qJ, qO, qP, qR, qU, qW, qZ, zD, zE, zH, zI, zJ, zK, zN, ofConst, cells?, List.length_nil, List.length_cons, List.set_cons_zero, splice, zO, List.getD_eq_getElem?_getD, List.getElem?_cons_zero, ↓reduceIte, Nat.reduceEqDiff, Option.getD_some, zP, zR, ↓zS, List.nil_append, List.cons_append, List.append_nil, Nat.zero_add, Nat.reduceAdd, Nat.add_zero, freshP, List.map_cons, List.map_nil, List.take_zero, List.drop_nil, List.all_cons, List.all_nil, isC, Bool.and_true, Bool.and_self, true_and, and_true, and_self, List.not_mem_nil, not_false_eq_true, Nat.le_refl, lg0, zY, zZ, kh, kn, kw, kA, jq, ↓jr, ↓jC, ↓jD, ↓jT, ↓qaR, noFr, hc, beq_self_eq_true]
      refine call9 rfl rfl ?_
      simp -implicitDefEqProofs only [qN, qO, qP, qQ, qR, qS, qV, qX, qZ, zb, zH, zJ, zK, zN, ofConst, zO, List.getD_eq_getElem?_getD, List.getElem?_cons_zero, ↓reduceIte, Nat.reduceEqDiff, Option.getD_some, zP, zR, Bool.not_true, ↓zS, ↓zT, zU, List.nil_append, Nat.zero_add, Nat.add_zero, zW, resP, tupV, List.reverse_cons, List.reverse_nil, wfV, Bool.and_self, true_and, and_self, V.v.injEq, Value.int.injEq, Value.bool.injEq, Bool.false_eq_true, lg0, lg1, ↓jr, ↓ju, ↓jx, ↓jA, ↓jG, ↓jR, ↓qaR, beq_self_eq_true]
  · refine call_is (ok13e n arcs f t am hc) (by simp [net, lendsOk, lendOk, lends, lend, wkL, wk, wkR]) (by simp [noFr, ren, rens]) trivial ?_
    have hb : (checkI n arcs == 0) = false := by simpa using hc
    simp -implicitDefEqProofs only [qE, qF, qI, qJ, qO, qP, qR, qU, qW, qZ, zD, zE, zH, zI, zJ, zK, zN, ofConst, cells?, List.length_nil, List.length_cons, List.set_cons_zero, splice, zO, List.getD_eq_getElem?_getD, List.getElem?_cons_zero, ↓reduceIte, Nat.reduceEqDiff, Option.getD_some, zP, zR, ↓zT, List.nil_append, List.cons_append, List.append_nil, Nat.zero_add, Nat.reduceAdd, Nat.add_zero, freshP, List.map_cons, List.map_nil, List.take_zero, List.drop_nil, List.all_cons, List.all_nil, isC, Bool.and_true, Bool.and_self, true_and, and_true, and_self, List.not_mem_nil, not_false_eq_true, Nat.le_refl, lg0, zY, zZ, kh, kn, kw, kA, jq, ↓jr, ↓jC, ↓jD, ↓jT, ↓qaR, noFr, hb]
    refine call9 rfl rfl ?_
    simp -implicitDefEqProofs only [qN, qO, qP, qQ, qR, qS, qV, qX, qZ, zb, zH, zJ, zK, zN, ofConst, zO, List.getD_eq_getElem?_getD, List.getElem?_cons_zero, ↓reduceIte, Nat.reduceEqDiff, Option.getD_some, zP, zR, Bool.not_true, ↓zS, ↓zT, zU, List.nil_append, Nat.zero_add, Nat.add_zero, zW, resP, tupV, List.reverse_cons, List.reverse_nil, wfV, Bool.and_self, true_and, and_self, V.v.injEq, Value.int.injEq, Value.bool.injEq, Bool.false_eq_true, lg0, lg1, ↓jr, ↓ju, ↓jx, ↓jA, ↓jG, ↓jR, ↓qaR, beq_self_eq_true]
end Go.Fx.C
namespace Go.Fx.C
open Go Go.Fx Go.Proofs
set_option maxRecDepth 20000
/-- Prices, of which the first k have grown. -/
def pmix (p D : List Int) (t : Nat) : Nat → List Int
  | 0 => p
  | k + 1 => (pmix p D t k).set k (p.getD k 0 + min (D.getD k 0) (D.getD t 0))
theorem pmix_len {p D : List Int} {t : Nat} : ∀ {k : Nat}, (pmix p D t k).length = p.length
  | 0 => rfl
  | k + 1 => by unfold pmix; rw [List.length_set]; exact pmix_len
theorem pmix_get {p D : List Int} {t : Nat} (j : Nat) : ∀ {k : Nat}, k ≤ p.length → (pmix p D t k).getD j 0 = if j < k then p.getD j 0 + min (D.getD j 0) (D.getD t 0) else p.getD j 0
  | 0, _ => by rw [if_neg (by omega)]; rfl
  | k + 1, hk => by
    unfold pmix
    rw [getD_set (by rw [pmix_len]; omega)]
    by_cases e : j = k
    · subst e; rw [if_pos rfl, if_pos (by omega)]
    · rw [if_neg e, pmix_get j (by omega)]
      by_cases e2 : j < k
      · rw [if_pos e2, if_pos (by omega)]
      · rw [if_neg e2, if_neg (by omega)]
section
variable {N : Nat} {arcs : List Arc} {f t : Nat} {am : Int}
def hpS (N : Nat) (arcs : List Arc) (x p : List Int) : List Blk :=
  [.var [.i N, .ro 4 (arcs.map Arc.enc)], .var [.i 0, .i 0, .nil, .nil, .nil], .arr 1 (x.map encI), .dead, .arv 1 (outR arcs N), .arr 1 (p.map encI), wB N arcs.length arcs 2 4 5]
abbrev pat13 (N : Nat) (arcs : List Arc) (f t : Nat) (am : Int) (g : Int × List Int × List Int) : St :=
  ⟨[(12, .i g.1), (11, .ptr 6 0 0), (8, .ptr 1 0 0), (3, .i am), (2, .i t), (1, .i f)], hpS N arcs g.2.1 g.2.2, 0⟩
def R13 (N : Nat) (arcs : List Arc) (f t : Nat) (am : Int) (r : V) (hs : List Blk) : Prop := ∃ fr, OkAc N arcs f t am fr ∧ wk (.tup [fr.enc, .i 0]) (gvV (fun _ => true) hs r)
theorem SI.init (hV : Val N arcs) (hf : f < N) (ht : t < N) (ham : 0 ≤ am) : SI N arcs f t am (List.replicate arcs.length 0) (List.replicate N 0) 0 := by
  have hr : ∀ (m k : Nat), (List.replicate m (0 : Int)).getD k 0 = 0 := by
    intro m k
    rw [List.getD_eq_getElem?_getD, List.getElem?_replicate]
    split <;> rfl
  refine ⟨⟨by simp, fun k hk => ?_⟩, fun w => ?_, fun i hi => ?_, by simp, hr _ _, fun j => ?_, ?_, ⟨Int.le_refl _, ham⟩⟩
  · rw [hr]
    have := hV.at hk
    omega
  · rw [vd_0, vd_0]
    have : ∀ k, valTo arcs w (List.replicate arcs.length 0) k = 0 := by
      intro k
      induction k with
      | zero => rfl
      | succ k ih => simp only [valTo, ih, hr]; split <;> split <;> rfl
    rw [this]; rfl
  · obtain ⟨h1, h2⟩ := hi
    have := hV.at h1
    unfold wrm at h2
    rw [hr] at h2
    unfold rcst wcst
    simp only [hr]
    split at h2
    · rename_i h0
      rw [if_pos h0]; omega
    · omega
  · simp only [hr]; omega
  · rw [hr]
    have := hV.hn
    exact Int.mul_nonneg (by omega) (by omega)
theorem tk_enc {l : List Int} {n : Nat} (h : l.length = n) : List.take n (l.map encI) = l.map encI := List.take_of_length_le (by simp [h])
theorem tk_enc' {l : List Int} : List.take l.length (l.map encI) = l.map encI := tk_enc rfl
theorem loop2 (hV : Val N arcs) (hN : N ≤ 64) (hf : f < N) (ht : t < N) (ham : 0 ≤ am ∧ am ≤ 2199023255552) {x p : List Int} {sent : Int} (hlt : sent < am) (hS : SI N arcs f t am x p sent) (hR : Reach arcs x p f t) {X : Nat → St → Prop} {RR : St → Prop} {s : St}
    (hX : ∀ (x' : List Int) (s' : Int), SI N arcs f t am x' p s' → sent < s' → ∀ e b, leS [] ⟨e, hpS N arcs x' p, b⟩ (pat13 N arcs f t am (s', x', p)) → X 4 ⟨e, hpS N arcs x' p, b⟩)
    (hs : leS [] s ⟨[(15, .i 1), (12, .i sent), (11, .ptr 6 0 0), (8, .ptr 1 0 0), (3, .i am), (2, .i t), (1, .i f)], hpS N arcs x p, 0⟩) :
    loopP [] (fun NX => aw (cxN Try.prog []) c13l2 NX X RR) s := by
  refine loopP_intro (fun g : Int × Int × List Int => (⟨[(15, .i g.1), (12, .i g.2.1), (11, .ptr 6 0 0), (8, .ptr 1 0 0), (3, .i am), (2, .i t), (1, .i f)], hpS N arcs g.2.2 p, 0⟩ : St))
    (fun g => SI N arcs f t am g.2.2 p g.2.1 ∧ 0 ≤ g.1 ∧ ((g.1 = 1 ∧ g.2.1 = sent ∧ Reach arcs g.2.2 p f t) ∨ sent < g.2.1)) (fun g => 2 * (am - g.2.1).toNat + (if 0 < g.1 then 1 else 0)) (1, sent, x) ⟨hS, by omega, .inl ⟨rfl, rfl, hR⟩⟩ hs ?_
  rintro ⟨more, s1, x1⟩ ⟨hS1, hm0, hcase⟩
  simp only at hS1 hm0 hcase ⊢
  have hxl := hS1.xb.hl
  have hW := hS1.wok hV hN
  have hs0 := hS1.s0
  unfold c13l2 hpS wB
  by_cases hgo : 0 < more ∧ s1 < am
  · have hd1 : decide (0 < more) = true := decide_eq_true hgo.1
    have hd2 : decide (s1 < am) = true := decide_eq_true hgo.2
    simp -implicitDefEqProofs only [qE, qF, qI, qJ, qK, qM, qO, qP, qQ, qR, qS, qZ, zD, zH, zJ, zK, zN, ofConst, List.length_nil, List.length_cons, ↓reduceIte, Nat.reduceEqDiff, zP, zR, Bool.not_true, ↓zS, ↓zT, zU, List.append_nil, Nat.zero_add, Nat.reduceAdd, List.map_cons, List.map_nil, true_and, jq, ↓qaN, ↓qaT, ↓qaV, cxN, hd1, hd2]
    refine ⟨by simp only [lo, hi]; omega, ?_⟩
    have h30 := ok30 hV hW ht x1 f (am - s1) hS1.xb hf ⟨by omega, by omega⟩
    refine call_isM (FQ arcs x1 (fun u => p.getD u 0) t (List.replicate N false) f (am - s1)) [6, 2, 4, 5] [] [] [.ptr 0 0 0, .i f, .i t, .i (am - s1)] (fun g => .i g.1) (wH N arcs x1 p) (fun g => wH N arcs g.2.1 p) h30 (by simp) (by simp) (by simp [wH, wB, blk, renB, rens, ren, pos, outR_ren, hxl]) (by simp [lendsOk, lendOk, lends, lend, wkL, wk, pos]) fun g hg => ⟨by simp [keepP], ?_⟩
    obtain ⟨n, x2, d2⟩ := g
    obtain ⟨q1, q2, q3⟩ := hS1.fill hf hg
    have hx2 : x2.length = arcs.length := q1.xb.hl
    have q4 := q1.s0
    simp -implicitDefEqProofs only [qF, qO, qP, qR, qZ, zH, zJ, zN, List.length_nil, List.length_cons, List.set_cons_zero, List.getElem?_cons_zero, ↓reduceIte, Nat.reduceEqDiff, zP, List.append_nil, Nat.zero_add, Nat.reduceAdd, zX, leE, leH, leB, leV, leVs, keepP, liveP, wfE, wfB, wfV, wfL, killE, killB, kill, kills, St.kill, List.map_cons, List.map_nil, Bool.and_true, Bool.and_self, true_and, and_true, and_self, V.v.injEq, Value.int.injEq, Value.bool.injEq, List.not_mem_nil, lg0, zY, lg1, kg, lg2, kk, lg3, kr, lg4, kz, lg5, kD, jq, ↓qaL, wH, wB, setAll, renB, rens, ren, outR_ren, outR_kill, back, hx2, Nat.reduceAdd]
    refine ⟨by simp only [lo, hi]; omega, (n, s1 + n, x2), ⟨⟨q1, q2, ?_⟩, ?_⟩, ?_⟩
    · right
      simp only
      rcases hcase with ⟨c1, c2, c3⟩ | c
      · have := q3 c3 hgo.2
        omega
      · omega
    · simp only
      rw [if_pos hgo.1]
      split <;> omega
    · simp -implicitDefEqProofs only [Bool.and_self, and_self, outR_wfT]
  · have hs1 : sent < s1 := by
      rcases hcase with ⟨c1, c2, c3⟩ | c
      · exact absurd ⟨by omega, by omega⟩ hgo
      · exact c
    have hx := hX x1 s1 hS1 hs1
    unfold pat13 hpS wB at hx
    by_cases h1 : 0 < more
    · have hd1 : decide (0 < more) = true := decide_eq_true h1
      have hd2 : decide (s1 < am) = false := decide_eq_false (fun h2 => hgo ⟨h1, h2⟩)
      simp -implicitDefEqProofs only [qF, qI, qJ, qM, qO, qP, qQ, qR, qS, qZ, zH, zJ, zK, zN, ofConst, List.length_nil, List.length_cons, ↓reduceIte, Nat.reduceEqDiff, zP, zR, Bool.not_true, ↓zS, ↓zT, zU, List.append_nil, Nat.zero_add, Nat.reduceAdd, true_and, jq, ↓qaT, ↓qaV, cxN, hd1, hd2]
      refine hx _ _ ?_
      simp -implicitDefEqProofs only [zN, List.getElem?_cons_zero, ↓reduceIte, Nat.reduceEqDiff, zX, leE, leH, leB, leV, leVs, keepP, liveP, wfE, wfB, wfV, wfL, Bool.and_self, and_self, lg0, lg1, lg2, lg3, lg4, lg5, outR_wfT]
    · have hd1 : decide (0 < more) = false := decide_eq_false h1
      simp -implicitDefEqProofs only [qE, qF, qI, qJ, qK, qM, qO, qP, qQ, qR, qS, qZ, zD, zH, zJ, zK, zN, ofConst, List.length_nil, List.length_cons, ↓reduceIte, Nat.reduceEqDiff, zP, zR, Bool.not_true, ↓zS, ↓zT, zU, List.append_nil, Nat.zero_add, Nat.reduceAdd, List.map_cons, List.map_nil, true_and, jq, ↓qaN, ↓qaT, ↓qaV, cxN, hd1]
      refine hx _ _ ?_
      simp -implicitDefEqProofs only [zN, List.getElem?_cons_zero, ↓reduceIte, Nat.reduceEqDiff, zX, leE, leH, leB, leV, leVs, keepP, liveP, wfE, wfB, wfV, wfL, Bool.and_self, and_self, lg0, lg1, lg2, lg3, lg4, lg5, outR_wfT]
theorem body13 (hV : Val N arcs) (hN : N ≤ 64) (hf : f < N) (ht : t < N) (hft : f ≠ t) (hal : arcs.length ≤ 100) (ham : 0 ≤ am ∧ am ≤ 2199023255552) {X : Nat → St → Prop}
    (hX : ∀ g : Int × List Int × List Int, SI N arcs f t am g.2.1 g.2.2 g.1 → g.1 = am → ∀ e b, get e 11 = .ptr 6 0 0 → get e 12 = .i am → get e 8 = .ptr 1 0 0 → X 0 ⟨e, hpS N arcs g.2.1 g.2.2, b⟩)
    (g : Int × List Int × List Int) (hg : SI N arcs f t am g.2.1 g.2.2 g.1) :
    aw (cxN Try.prog []) c13l0 (fun s' => ∃ g' : Int × List Int × List Int, (SI N arcs f t am g'.2.1 g'.2.2 g'.1 ∧ (am - g'.1).toNat < (am - g.1).toNat) ∧ leS [] s' (pat13 N arcs f t am g')) X (retP [] 0 [.cell 8 (some 5), .tmp 9] (R13 N arcs f t am)) (pat13 N arcs f t am g) := by
  obtain ⟨sent, x, p⟩ := g
  simp only at hg
  have hxl := hg.xb.hl
  have hW := hg.wok hV hN
  have hWx := hW x hg.xb
  have hs0 := hg.s0
  unfold c13l0 pat13 hpS wB
  rcases (by omega : sent < am ∨ am ≤ sent) with h | h
  · have hd : decide (sent < am) = true := decide_eq_true h
    simp -implicitDefEqProofs only [qE, qF, qI, qJ, qK, qO, qP, qR, qZ, zD, zH, zJ, zN, List.length_nil, List.length_cons, ↓reduceIte, Nat.reduceEqDiff, zP, zR, ↓zS, List.append_nil, Nat.zero_add, Nat.reduceAdd, List.map_cons, List.map_nil, true_and, jq, ↓qaT, cxN, hd]
    have h28 := ok28 (hs := hf) hWx hg.nn (fun j => hg.xb.bd hV j)
    refine call_isM (DistQ N (grD N arcs x (fun u => p.getD u 0) f hWx.hV hf hg.nn)) [6, 2, 4, 5] [] [] [.ptr 0 0 0, .i f] (fun _ => .sl 7 0 N) (wH N arcs x p) (fun D : List Int => wH N arcs x p ++ [Blk.dead, Blk.dead, Blk.dead, Blk.arr 1 (D.map encI)]) h28 (by simp) (by simp) (by simp [wH, wB, blk, renB, rens, ren, pos, outR_ren, hxl]) (by simp [lendsOk, lendOk, lends, lend, wkL, wk, pos]) fun D hD => ⟨by simp [keepP, liveP, wH, wB, setAll, renB, killB], ?_⟩
    simp -implicitDefEqProofs only [qE, qF, qI, qJ, qK, qL, qO, qP, qR, qV, qX, qY, qZ, zb, zD, zF, zH, zJ, zK, zN, ofConst, List.length_nil, List.length_cons, List.set_cons_zero, zO, List.getD_eq_getElem?_getD, List.getElem?_cons_zero, ↓reduceIte, Nat.reduceEqDiff, Option.getD_some, zP, arrSz, zR, List.nil_append, List.cons_append, List.append_nil, Nat.zero_add, Nat.reduceAdd, killE, killB, kill, kills, St.kill, List.map_cons, List.map_nil, true_and, List.not_mem_nil, List.length_map, lg0, zY, lg1, kg, lg2, kk, lg3, kr, lg4, kz, lg5, kD, lg6, lg7, lg8, lg9, jq, ↓jr, ↓ju, ↓jx, ↓jy, ↓jA, ↓jG, ↓jI, ↓jN, ↓jU, ↓qaR, List.length_map, List.getElem_map, encI_0, Int.toNat_natCast, wH, wB, setAll, renB, rens, ren, outR_ren, outR_kill, back, hxl, List.getElem?_nil, Nat.reduceSub, Nat.reduceAdd]
    have hDl := hD.len
    have hDt : D.getD t 0 = D[t]'(by omega) := getD_nat (by omega)
    refine ⟨⟨by omega, by omega⟩, by omega, ?_⟩
    simp only [br, beq_iff_eq, beq_eq_false_iff_ne]
    refine ⟨fun hfar => ?_, fun hfar => ?_⟩
    · have h29 := ok29 hWx hg.xb sent D (by omega)
      rw [hDl] at h29
      have hok := hg.cut hV hN hf ht hft h hD (by rw [hDt]; exact hfar)
      generalize hT : totTo arcs x arcs.length = tot at *
      refine call_isN [6, 2, 4, 5] [.ptr 0 0 0, .i sent, .bro 1 (D.map encI)] (.agg [.i sent, .i tot, .sl 1 0 x.length, .sl 3 0 N, .sl 6 0 (cutL D N).length]) (.agg [.i sent, .i tot, .sl 2 0 x.length, .sl 5 0 N, .sl 13 0 (cutL D N).length]) (wH N arcs x p) (wH N arcs x p ++ [Blk.dead, Blk.dead, Blk.arr 1 ((cutL D N).map encI)]) _ h29 (by simp) (by simp [wH, wB, blk, renB, rens, ren, pos, outR_ren, hxl]) (by simp [lendsOk, lendOk, lends, lend, wkL, wk, wkR, wkB, blk, pos, hDl, tk_enc]) (by simp [wH]) rfl (by simp [ren, rens, back]) (by simp [keepP]) ?_
      simp -implicitDefEqProofs only [qN, qO, qP, qR, qW, zH, zI, zJ, zK, zN, ofConst, cells?, List.length_nil, List.length_cons, List.set_cons_zero, splice, zO, List.getD_eq_getElem?_getD, List.getElem?_cons_zero, ↓reduceIte, Nat.reduceEqDiff, Option.getD_some, List.nil_append, List.cons_append, List.append_nil, Nat.zero_add, Nat.reduceAdd, List.map_cons, List.map_nil, List.take_zero, List.drop_nil, List.all_cons, List.all_nil, isC, Bool.and_true, Bool.and_self, true_and, and_true, and_self, List.not_mem_nil, not_false_eq_true, Nat.le_refl, lg0, zY, zZ, lg1, kg, kh, lg2, kk, kn, kr, kw, kz, kA, kD, ↓jr, ↓jC, ↓jD, wH, wB, setAll, renB, rens, ren, outR_ren, back, hxl, Nat.reduceAdd]
      rw [retP_eq]
      simp -implicitDefEqProofs only [zN, List.length_nil, List.length_cons, zO, List.getD_eq_getElem?_getD, List.getElem?_cons_zero, ↓reduceIte, Nat.reduceEqDiff, Option.getD_some, List.nil_append, List.cons_append, Nat.zero_add, Nat.reduceAdd, resP, tupV, List.reverse_cons, List.reverse_nil, keepP, liveP, wfV, wfL, List.drop_zero, List.take_nil, Bool.and_true, Bool.and_self, true_and, and_true, and_self, Nat.le_refl, lg0, ka, ki, ko, kx, kB, ↓ju, ↓jx, ↓jB]
      refine ⟨[.dead, .dead, .arr 1 (x.map encI), .dead, .dead, .arr 1 (p.map encI), .dead, .dead, .dead, .dead, .dead, .dead, .dead, .arr 1 ((cutL D N).map encI)], ⟨by simp [leH, leB], by simp [wfV, wfL, liveP], by simp [wfB]⟩, _, hok, ?_⟩
      have e1 : List.take arcs.length (x.map encI) = x.map encI := tk_enc hxl
      have e2 : List.take N (p.map encI) = p.map encI := tk_enc hg.pl
      have hpl := hg.pl
      simp [gvV, gvL, wk, wkL, wkR, blk, Fr.enc, li, e1, e2, tk_enc', hxl, hpl]
    · have hp13 := hg.price hV hf ht hD hN (by rw [hDt]; exact hfar) (p' := pmix p D t N) (pmix_len.trans hg.pl) (fun k hk => by rw [pmix_get k (by rw [hg.pl]; exact Nat.le_refl _), if_pos hk])
      have hpl := hg.pl
      intro _
      refine loopP_intro (fun k : Nat => (⟨[(55, .i k), (54, .i N), (13, .sl 10 0 N), (12, .i sent), (11, .ptr 6 0 0), (8, .ptr 1 0 0), (3, .i am), (2, .i t), (1, .i f)], hpS N arcs x (pmix p D t k) ++ [.dead, .dead, .dead, .arr 1 (D.map encI)], 0⟩ : St)) (fun k => k ≤ N) (fun k => N - k) 0 (Nat.zero_le _) ?_ fun k hk => ?_
      · unfold hpS wB
        simp -implicitDefEqProofs only [zN, List.getElem?_cons_zero, ↓reduceIte, Nat.reduceEqDiff, List.nil_append, List.cons_append, zX, leE, leH, leB, leV, leVs, keepP, liveP, wfE, wfB, wfV, wfL, Bool.and_self, and_self, lg0, lg1, lg2, lg3, lg4, lg5, lg6, lg7, lg8, lg9, outR_wfT, Int.natCast_zero, pmix]
      unfold c13l1 hpS wB
      rcases Nat.lt_or_ge k N with hkN | hkN
      · have hd2 : decide ((k : Int) < N) = true := decide_eq_true (by omega)
        simp -implicitDefEqProofs only [qE, qF, qG, qI, qJ, qK, qO, qP, qR, qV, qW, qX, qY, qZ, zg, zF, zH, zI, zJ, zK, zN, ofConst, cells?, List.length_nil, List.length_cons, List.set_cons_zero, splice, zO, List.getD_eq_getElem?_getD, List.getElem?_cons_zero, ↓reduceIte, Nat.reduceEqDiff, Option.getD_some, zP, arrSz, zR, ↓zS, List.nil_append, List.cons_append, List.append_nil, Nat.zero_add, Nat.reduceAdd, zX, leE, leH, leB, leV, leVs, keepP, liveP, wfE, wfB, wfV, wfL, List.take_zero, List.all_cons, List.all_nil, isD, isC, Bool.and_true, Bool.and_self, true_and, and_true, and_self, V.v.injEq, Value.int.injEq, Value.bool.injEq, List.not_mem_nil, List.length_map, not_false_eq_true, Bool.false_eq_true, Nat.le_refl, lg0, zY, lg1, kg, lg2, kk, lg3, kr, lg4, kz, lg5, lg6, lg7, lg8, lg9, jq, ↓jr, ↓ju, ↓jx, ↓jy, ↓jA, ↓jC, ↓jE, ↓jG, ↓jI, ↓jU, ↓qaL, ↓qaT, List.length_map, List.getElem_map, encI_0, Int.toNat_natCast, encI_drop, hd2]
        have hml : (pmix p D t k).length = N := pmix_len.trans hpl
        have hmk : (pmix p D t k)[k]'(by omega) = p.getD k 0 := by
          rw [← getD_nat (by omega), pmix_get k (by omega), if_neg (Nat.lt_irrefl _)]
        have hDk : D.getD k 0 = D[k]'(by omega) := getD_nat (by omega)
        have hpb := hWx.hb k
        have hKBv : KB = 67711795200 := rfl
        have hbk := lab_b (hV := hWx.hV) (hs := hf) (hn := hg.nn) hN (fun j => hWx.hb j) hD.lab hkN
        have hbt := lab_b (hV := hWx.hV) (hs := hf) (hn := hg.nn) hN (fun j => hWx.hb j) hD.lab ht
        have hfv : far = 4611686018427387904 := rfl
        have hm1 : min D[k] D[t] ≤ 67711795200 := by
          refine Int.le_trans (Int.min_le_right _ _) ?_
          rcases hbt.2 with e | e
          · exact absurd (hDt.symm.trans e) hfar
          · rw [hDt] at e; omega
        have hm2 : 0 ≤ min D[k] D[t] := by
          rw [hDk] at hbk
          rw [hDt] at hbt
          exact Int.le_min.2 ⟨hbk.1, hbt.1⟩
        have hms : pmix p D t (k + 1) = (pmix p D t k).set k (p.getD k 0 + min D[k] D[t]) := by rw [← hDk, ← hDt]; rfl
        simp only [hmk]
        refine ⟨⟨by omega, by omega⟩, by rw [hml]; exact hkN, ⟨by omega, by omega⟩, by omega, ⟨by omega, by omega⟩, by omega, by simp only [lo, hi]; omega, ⟨by omega, by omega⟩, by rw [hml]; exact hkN, by simp only [lo, hi]; omega, k + 1, ⟨by omega, by omega⟩, by simp, ?_, outR_wf⟩
        rw [hms, ← encI_set]
      · have hd2 : decide ((k : Int) < N) = false := decide_eq_false (by omega)
        have : k = N := by omega
        subst this
        simp -implicitDefEqProofs only [qF, qI, qJ, qK, qL, qM, qO, qP, qR, qZ, zH, zJ, zK, zN, ofConst, List.length_nil, List.length_cons, ↓reduceIte, Nat.reduceEqDiff, zP, zR, ↓zT, List.nil_append, List.cons_append, List.append_nil, Nat.zero_add, Nat.reduceAdd, true_and, jq, ↓qaT, hd2]
        obtain ⟨hS1, hR1⟩ := hp13
        generalize pmix p D t k = p1 at *
        refine loop2 hV hN hf ht ham h hS1 hR1 (fun x' s' h1 h2 e b h3 => ?_) ?_
        · simp only [if_pos]
          exact ⟨(s', x', p1), ⟨h1, by simp only; have := h1.s0; omega⟩, h3⟩
        · unfold hpS wB
          simp -implicitDefEqProofs only [zN, List.getElem?_cons_zero, ↓reduceIte, Nat.reduceEqDiff, zX, leE, leH, leB, leV, leVs, keepP, liveP, wfE, wfB, wfV, wfL, Bool.and_self, and_self, lg0, lg1, lg2, lg3, lg4, lg5, outR_wfT]
  · have hd : decide (sent < am) = false := decide_eq_false (by omega)
    simp -implicitDefEqProofs only [qF, qI, qJ, qM, qO, qP, qR, qZ, zH, zJ, zN, List.length_nil, List.length_cons, ↓reduceIte, Nat.reduceEqDiff, zP, zR, ↓zT, List.append_nil, Nat.zero_add, Nat.reduceAdd, true_and, jq, ↓qaT, cxN, hd]
    have he : sent = am := by omega
    subst he
    exact hX (sent, x, p) hg rfl _ _ rfl rfl rfl
/-- Send: a freight that is right. -/
theorem ok13 (hV : Val N arcs) (hN : N ≤ 64) (hf : f < N) (ht : t < N) (hft : f ≠ t) (hal : arcs.length ≤ 100) (ham : 0 ≤ am ∧ am ≤ 2199023255552) (htask : taskP N f t am = true) :
    Ok 13 [net N arcs, .i f, .i t, .i am] (IsQ (fun fr => OkAc N arcs f t am fr) (fun fr => .tup [fr.enc, .i 0]) (fun _ => [])) := by
  refine ⟨rlF_callable lw13, Fn_giveQ (R := R13 N arcs f t am) ?_ fun r hs ⟨fr, h1, h2⟩ => ⟨_, h2, fr, h1, rfl, rfl⟩⟩
  refine (ok_of lw13 (by simp) ?_).2
  unfold c13 net
  simp -implicitDefEqProofs only [qF, qI, qO, qP, qR, qT, qU, qV, zD, zH, zJ, zK, zN, ofConst, cells?, List.length_nil, List.length_cons, List.set_cons_zero, zO, List.getD_eq_getElem?_getD, List.getElem?_cons_zero, ↓reduceIte, Nat.reduceEqDiff, Option.getD_some, List.nil_append, List.append_nil, Nat.zero_add, Nat.reduceAdd, Nat.add_zero, freshP, List.map_cons, List.map_nil, List.drop_zero, List.take_nil, true_and, Nat.le_refl, lg0, zY, ka, kc, ki, kj, jq, ↓jr, ↓ju, ↓jx, ↓jB, cxN, args0]
  refine call_is (ok11 N arcs) (by simp [net, lendsOk, lendOk, lends, lend, wkL, wk, wkR]) rfl trivial ?_
  simp -implicitDefEqProofs only [qE, qF, qI, qJ, qN, qO, qP, qR, qV, qW, qZ, zk, zD, zH, zI, zJ, zK, zN, ofConst, cells?, List.length_nil, List.length_cons, List.set_cons_zero, splice, zO, List.getD_eq_getElem?_getD, List.getElem?_cons_zero, ↓reduceIte, Nat.reduceEqDiff, Option.getD_some, zP, zR, ↓zT, List.nil_append, List.append_nil, Nat.zero_add, Nat.reduceAdd, reduceCtorEq, buildP, List.map_cons, List.map_nil, List.drop_zero, List.take_zero, List.take_nil, List.drop_nil, List.all_cons, List.all_nil, isC, Bool.and_true, Bool.and_self, true_and, and_true, and_self, List.not_mem_nil, not_false_eq_true, Nat.le_refl, lg0, zY, zZ, ka, kh, ki, kn, kw, kA, jq, ↓jr, ↓ju, ↓jx, ↓jB, ↓jC, ↓jD, ↓qaS, hV.chk, bne_self_eq_false]
  refine call_is (ok26 N arcs f t am) (by simp [net, lendsOk, lendOk, lends, lend, wkL, wk, wkR]) rfl trivial ?_
  simp -implicitDefEqProofs only [qc, qf, qw, rdK, qx, qz, qA, qC, qE, qI, qJ, qO, qP, qV, qX, zb, zd, zq, zD, zH, zJ, zN, List.length_nil, List.length_cons, List.set_cons_zero, zO, List.getD_eq_getElem?_getD, List.getElem?_cons_zero, ↓reduceIte, Nat.reduceEqDiff, Option.getD_some, zP, zQ, zR, Bool.not_true, ↓zT, List.nil_append, List.cons_append, Nat.zero_add, Nat.reduceAdd, Nat.add_zero, freshP, List.map_cons, List.map_nil, List.drop_zero, List.take_nil, Bool.and_true, true_and, and_true, List.length_map, Bool.false_eq_true, Nat.le_refl, lg0, zY, ka, kc, lg1, kg, ki, jq, ↓jr, ↓ju, ↓jx, ↓jA, ↓jB, ↓jG, ↓jO, List.length_map, Int.toNat_natCast, htask]
  intro _
  refine ⟨⟨⟨by omega, by omega⟩, by omega, by omega⟩, ?_⟩
  have hx0 : (List.replicate arcs.length (0 : Int)).length = arcs.length := by simp
  have h27 := ok27 N arcs (List.replicate arcs.length 0) hV
  rw [hx0] at h27
  have e0 : List.replicate arcs.length [V.i 0] = (List.replicate arcs.length (0 : Int)).map encI := by simp [encI]
  refine call_isN [2] [net N arcs, .sl 0 0 arcs.length] (.ptr 4 0 0) (.ptr 6 0 0) [.arr 1 ((List.replicate arcs.length (0 : Int)).map encI)] [.arr 1 ((List.replicate arcs.length (0 : Int)).map encI), Blk.dead, .arv 1 (outR arcs N), .arr 1 (List.replicate N (encI 0)), wB N arcs.length arcs 0 2 3] _ h27 (by simp) (by simp [blk, renB, rens, ren, pos, encI]) (by simp [net, lendsOk, lendOk, lends, lend, wkL, wk, wkR, pos]) (by simp) rfl (by simp [ren, rens, back]) (by simp [keepP]) ?_
  rw [rep_encI]
  simp -implicitDefEqProofs only [qa, qy, qA, qF, qI, qK, qL, qO, qP, qR, zH, zJ, zK, zN, ofConst, List.length_nil, List.length_cons, List.set_cons_zero, List.getElem?_cons_zero, ↓reduceIte, List.nil_append, List.cons_append, List.append_nil, Nat.zero_add, Nat.reduceAdd, List.map_cons, List.map_nil, zY, lg1, kg, lg2, jq, wB, setAll, renB, rens, ren, outR_ren, back, List.getElem?_nil, Nat.reduceSub, Nat.reduceAdd]
  refine loopP_intro (pat13 N arcs f t am) (fun g => SI N arcs f t am g.2.1 g.2.2 g.1) (fun g => (am - g.1).toNat) (0, List.replicate arcs.length 0, List.replicate N 0) (SI.init hV hf ht ham.1) ?_ (body13 hV hN hf ht hft hal ham ?_)
  · unfold pat13 hpS wB
    simp -implicitDefEqProofs only [zN, List.getElem?_cons_zero, ↓reduceIte, Nat.reduceEqDiff, reduceCtorEq, zX, leE, leH, leB, leV, leVs, keepP, liveP, wfE, wfB, wfV, wfL, Bool.and_self, and_self, lg0, lg1, lg2, lg3, lg4, lg5, outR_wfT]
  · rintro ⟨sent, x, p⟩ hS he e b g1 g2 g3
    simp only at hS he
    subst he
    have hWx := hS.wok hV hN x hS.xb
    have hxl := hS.xb.hl
    have hpl := hS.pl
    have h29 := ok29 hWx hS.xb sent [] (Nat.zero_le _)
    have hok := hS.all hV hN hf ht hft rfl
    generalize hT : totTo arcs x arcs.length = tot at *
    unfold hpS wB
    simp -implicitDefEqProofs only [qF, qI, qP, qR, zD, zH, zJ, zK, zN, ofConst, List.length_nil, List.length_cons, ↓reduceIte, Nat.reduceEqDiff, List.append_nil, Nat.zero_add, Nat.reduceAdd, List.map_cons, List.map_nil, jq, g1, g2]
    refine call_isN [6, 2, 4, 5] [.ptr 0 0 0, .i sent, .bro 1 []] (.agg [.i sent, .i tot, .sl 1 0 x.length, .sl 3 0 N, .sl 6 0 0]) (.agg [.i sent, .i tot, .sl 2 0 x.length, .sl 5 0 N, .sl 9 0 0]) (wH N arcs x p) (wH N arcs x p ++ [Blk.dead, Blk.dead, Blk.arr 1 []]) _ h29 (by simp) (by simp [wH, wB, blk, renB, rens, ren, pos, outR_ren, hxl]) (by simp [lendsOk, lendOk, lends, lend, wkL, wk, wkR, wkB, blk, pos]) (by simp [wH]) rfl (by simp [ren, rens, back]) (by simp [keepP]) ?_
    simp -implicitDefEqProofs only [qN, qO, qP, qR, qW, zH, zI, zJ, zK, zN, ofConst, cells?, List.length_nil, List.length_cons, List.set_cons_zero, splice, zO, List.getD_eq_getElem?_getD, List.getElem?_cons_zero, ↓reduceIte, Nat.reduceEqDiff, Option.getD_some, List.nil_append, List.cons_append, List.append_nil, Nat.zero_add, Nat.reduceAdd, List.map_cons, List.map_nil, List.take_zero, List.drop_nil, List.all_cons, List.all_nil, isC, Bool.and_true, Bool.and_self, true_and, and_true, and_self, List.not_mem_nil, not_false_eq_true, Nat.le_refl, lg0, zY, zZ, lg1, kg, kh, lg2, kk, kn, kr, kw, kz, kA, kD, ↓jr, ↓jC, ↓jD, wH, wB, setAll, renB, rens, ren, outR_ren, back, hxl, g3, Nat.reduceAdd]
    rw [retP_eq]
    simp -implicitDefEqProofs only [zN, List.length_nil, List.length_cons, zO, List.getD_eq_getElem?_getD, List.getElem?_cons_zero, ↓reduceIte, Nat.reduceEqDiff, Option.getD_some, List.nil_append, List.cons_append, Nat.zero_add, Nat.reduceAdd, resP, tupV, List.reverse_cons, List.reverse_nil, keepP, liveP, wfV, wfL, List.drop_zero, List.take_nil, Bool.and_true, Bool.and_self, true_and, and_true, and_self, Nat.le_refl, lg0, ka, ki, ko, kx, kB, ↓ju, ↓jx, ↓jB, g3]
    refine ⟨[.dead, .dead, .arr 1 (x.map encI), .dead, .dead, .arr 1 (p.map encI), .dead, .dead, .dead, .arr 1 []], ⟨by simp [leH, leB], by simp [wfV, wfL, liveP], by simp [wfB]⟩, _, hok, ?_⟩
    have e1 : List.take arcs.length (x.map encI) = x.map encI := tk_enc hxl
    have e2 : List.take N (p.map encI) = p.map encI := tk_enc hpl
    simp [gvV, gvL, wk, wkL, wkR, blk, Fr.enc, li, e1, e2, tk_enc', hxl, hpl]
end
end Go.Fx.C
namespace Go.Fx.C
open Go Go.Fx Go.Proofs
set_option maxRecDepth 20000
def c8t : LCode :=
  (.seq
  (.reg 1 [
  ⟨(some 86), .load (some 2) (.tmp 7), none⟩,
  ⟨(some 87), .mov (.tmp 1), none⟩,
  ⟨(some 88), .mov (.tmp 2), none⟩,
  ⟨(some 89), .mov (.tmp 3), none⟩,
  ⟨(some 90), .call 13 [(.tmp 86), (.tmp 87), (.tmp 88), (.tmp 89)], none⟩,
  ⟨(some 85), .mov (.tmp 90), none⟩,
  ⟨(some 91), .ext (.tmp 85) 0, none⟩,
  ⟨(some 92), .ext (.tmp 85) 1, none⟩,
  ⟨(some 18), .alloc 0 (.agg #[.int .i64 0, .int .i64 0, .slice none 0 0, .slice none 0 0, .slice none 0 0]), none⟩,
  ⟨none, .store 5 (.tmp 18) (.tmp 91), none⟩,
  ⟨(some 19), .mov (.tmp 92), none⟩])
  (.seq
  (.reg 1 [
  ⟨(some 94), .load (some 2) (.tmp 16), none⟩,
  ⟨(some 95), .mov (.tmp 1), none⟩,
  ⟨(some 96), .mov (.tmp 2), none⟩,
  ⟨(some 97), .mov (.tmp 3), none⟩,
  ⟨(some 98), .call 13 [(.tmp 94), (.tmp 95), (.tmp 96), (.tmp 97)], none⟩,
  ⟨(some 93), .mov (.tmp 98), none⟩,
  ⟨(some 99), .ext (.tmp 93) 0, none⟩,
  ⟨(some 100), .ext (.tmp 93) 1, none⟩,
  ⟨(some 20), .alloc 0 (.agg #[.int .i64 0, .int .i64 0, .slice none 0 0, .slice none 0 0, .slice none 0 0]), none⟩,
  ⟨none, .store 5 (.tmp 20) (.tmp 99), none⟩,
  ⟨(some 21), .mov (.tmp 100), none⟩])
  (.seq
  (.seq
  (.reg 0 [
  ⟨(some 101), .mov (.tmp 19), none⟩,
  ⟨(some 102), .bin .neq false (.tmp 101) (.const (.int .i64 0)), none⟩,
  ⟨(some 103), .mov (.tmp 102), none⟩,
  ⟨(some 104), .mov (.tmp 21), (some (103, false))⟩,
  ⟨(some 105), .bin .neq false (.tmp 104) (.const (.int .i64 0)), (some (103, false))⟩,
  ⟨(some 106), .pick (.tmp 103) (.const (.bool true)) (.tmp 105), none⟩,
  ⟨(some 107), .mov (.tmp 106), none⟩,
  ⟨(some 108), .fld 0 (.tmp 20), (some (107, false))⟩,
  ⟨(some 109), .load none (.tmp 108), (some (107, false))⟩,
  ⟨(some 110), .fld 0 (.tmp 18), (some (107, false))⟩,
  ⟨(some 111), .load none (.tmp 110), (some (107, false))⟩,
  ⟨(some 112), .bin .lss false (.tmp 109) (.tmp 111), (some (107, false))⟩,
  ⟨(some 113), .pick (.tmp 107) (.const (.bool true)) (.tmp 112), none⟩])
  (.cond (.tmp 113)
  (.seq
  (.reg 0 [
  ⟨(some 14), .mov (.const (.bool false)), none⟩])
  .ret)
  .skip))
  (.seq
  (.reg 1 [
  ⟨(some 115), .load (some 2) (.tmp 16), none⟩,
  ⟨(some 116), .mov (.tmp 1), none⟩,
  ⟨(some 117), .mov (.tmp 2), none⟩,
  ⟨(some 118), .fld 0 (.tmp 18), none⟩,
  ⟨(some 119), .load none (.tmp 118), none⟩,
  ⟨(some 120), .call 13 [(.tmp 115), (.tmp 116), (.tmp 117), (.tmp 119)], none⟩,
  ⟨(some 114), .mov (.tmp 120), none⟩,
  ⟨(some 121), .ext (.tmp 114) 0, none⟩,
  ⟨(some 122), .ext (.tmp 114) 1, none⟩,
  ⟨(some 22), .alloc 0 (.agg #[.int .i64 0, .int .i64 0, .slice none 0 0, .slice none 0 0, .slice none 0 0]), none⟩,
  ⟨none, .store 5 (.tmp 22) (.tmp 121), none⟩,
  ⟨(some 23), .mov (.tmp 122), none⟩])
  (.seq
  (.reg 0 [
  ⟨(some 123), .call 9 [], none⟩,
  ⟨(some 124), .mov (.tmp 123), none⟩,
  ⟨(some 125), .mov (.tmp 23), (some (124, true))⟩,
  ⟨(some 126), .bin .eql false (.tmp 125) (.const (.int .i64 0)), (some (124, true))⟩,
  ⟨(some 127), .pick (.tmp 124) (.tmp 126) (.const (.bool false)), none⟩,
  ⟨(some 128), .mov (.tmp 127), none⟩,
  ⟨(some 129), .fld 0 (.tmp 22), (some (128, true))⟩,
  ⟨(some 130), .load none (.tmp 129), (some (128, true))⟩,
  ⟨(some 131), .fld 0 (.tmp 18), (some (128, true))⟩,
  ⟨(some 132), .load none (.tmp 131), (some (128, true))⟩,
  ⟨(some 133), .bin .eql false (.tmp 130) (.tmp 132), (some (128, true))⟩,
  ⟨(some 134), .pick (.tmp 128) (.tmp 133) (.const (.bool false)), none⟩,
  ⟨(some 135), .mov (.tmp 134), none⟩,
  ⟨(some 136), .fld 1 (.tmp 22), (some (135, true))⟩,
  ⟨(some 137), .load none (.tmp 136), (some (135, true))⟩,
  ⟨(some 138), .fld 1 (.tmp 18), (some (135, true))⟩,
  ⟨(some 139), .load none (.tmp 138), (some (135, true))⟩,
  ⟨(some 140), .bin .leq false (.tmp 137) (.tmp 139), (some (135, true))⟩,
  ⟨(some 141), .pick (.tmp 135) (.tmp 140) (.const (.bool false)), none⟩,
  ⟨(some 14), .mov (.tmp 141), none⟩])
  .ret)))))
def c8f : LCode :=
  (.seq
  (.reg 1 [
  ⟨(some 7), .box 0 (.tmp 0), none⟩,
  ⟨(some 14), .mov (.const (.bool false)), none⟩])
  (.seq
  (.reg 0 [
  ⟨(some 24), .load (some 2) (.tmp 7), none⟩,
  ⟨(some 25), .call 14 [(.tmp 24), (.const (.int .i64 1048576))], none⟩,
  ⟨(some 15), .mov (.tmp 25), none⟩])
  (.seq
  (.seq
  (.reg 0 [
  ⟨(some 26), .mov (.tmp 15), none⟩,
  ⟨(some 27), .not (.tmp 26), none⟩,
  ⟨(some 28), .mov (.tmp 27), none⟩,
  ⟨(some 29), .fld 1 (.tmp 7), (some (28, false))⟩,
  ⟨(some 30), .load none (.tmp 29), (some (28, false))⟩,
  ⟨(some 31), .len (.tmp 30), (some (28, false))⟩,
  ⟨(some 32), .bin .eql false (.tmp 31) (.const (.int .i64 0)), (some (28, false))⟩,
  ⟨(some 33), .pick (.tmp 28) (.const (.bool true)) (.tmp 32), none⟩,
  ⟨(some 34), .mov (.tmp 33), none⟩,
  ⟨(some 35), .load (some 2) (.tmp 7), (some (34, false))⟩,
  ⟨(some 36), .mov (.tmp 1), (some (34, false))⟩,
  ⟨(some 37), .mov (.tmp 2), (some (34, false))⟩,
  ⟨(some 38), .mov (.tmp 3), (some (34, false))⟩,
  ⟨(some 39), .call 12 [(.tmp 35), (.tmp 36), (.tmp 37), (.tmp 38)], (some (34, false))⟩,
  ⟨(some 40), .not (.tmp 39), (some (34, false))⟩,
  ⟨(some 41), .pick (.tmp 34) (.const (.bool true)) (.tmp 40), none⟩])
  (.cond (.tmp 41)
  (.seq
  (.reg 0 [
  ⟨(some 42), .call 9 [], none⟩,
  ⟨(some 14), .mov (.tmp 42), none⟩])
  .ret)
  .skip))
  (.seq
  (.tree 3
  (.take 0 [1, 6, 8] ⟨(some 43), .fld 0 (.tmp 7), none⟩
  (.take 1 [6, 8] ⟨(some 44), .load none (.tmp 43), none⟩
  (.take 3 [4, 5, 6, 8] ⟨(some 46), .fld 1 (.tmp 7), none⟩
  (.take 4 [5, 6, 8] ⟨(some 47), .load none (.tmp 46), none⟩
  (.alt 2 ⟨(some 45), .lits 0 4 0 [.int .i64 0, .int .i64 0, .int .i64 0, .int .i64 0] [], none⟩ true
  (.alt 5 ⟨(some 48), .append 1 4 32 (.tmp 45) (.tmp 47), none⟩ true
  (.take 6 [8] ⟨(some 49), .build [.int .i64 0, .slice none 0 0] [(0, 1, (.tmp 44)), (1, 1, (.tmp 48))], none⟩
  (.alt 7 ⟨(some 16), .alloc 2 (.agg #[.int .i64 0, .slice none 0 0]), none⟩ true
  (.alt 8 ⟨none, .store 2 (.tmp 16) (.tmp 49), none⟩ false
  .done
  .none)
  .none))
  (.alt 7 ⟨(some 16), .alloc 2 (.agg #[.int .i64 0, .slice none 0 0]), none⟩ true
  (.alt 5 ⟨(some 48), .append 1 4 32 (.tmp 45) (.tmp 47), none⟩ true
  (.take 6 [8] ⟨(some 49), .build [.int .i64 0, .slice none 0 0] [(0, 1, (.tmp 44)), (1, 1, (.tmp 48))], none⟩
  (.alt 8 ⟨none, .store 2 (.tmp 16) (.tmp 49), none⟩ false
  .done
  .none))
  .none)
  .none))
  (.alt 7 ⟨(some 16), .alloc 2 (.agg #[.int .i64 0, .slice none 0 0]), none⟩ true
  (.alt 2 ⟨(some 45), .lits 0 4 0 [.int .i64 0, .int .i64 0, .int .i64 0, .int .i64 0] [], none⟩ true
  (.alt 5 ⟨(some 48), .append 1 4 32 (.tmp 45) (.tmp 47), none⟩ true
  (.take 6 [8] ⟨(some 49), .build [.int .i64 0, .slice none 0 0] [(0, 1, (.tmp 44)), (1, 1, (.tmp 48))], none⟩
  (.alt 8 ⟨none, .store 2 (.tmp 16) (.tmp 49), none⟩ false
  .done
  .none))
  .none)
  .none)
  .none)))))))
  (.seq
  (.reg 0 [
  ⟨(some 50), .mov (.tmp 4), none⟩,
  ⟨(some 51), .conv true .i64 (.tmp 50), none⟩,
  ⟨(some 52), .fld 1 (.tmp 16), none⟩,
  ⟨(some 53), .load none (.tmp 52), none⟩,
  ⟨(some 54), .len (.tmp 53), none⟩,
  ⟨(some 55), .bin .rem false (.tmp 51) (.tmp 54), none⟩,
  ⟨(some 17), .mov (.tmp 55), none⟩])
  (.seq
  (.tail 14 0 [
  ⟨(some 56), .fld 1 (.tmp 16), none⟩,
  ⟨(some 57), .load none (.tmp 56), none⟩,
  ⟨(some 58), .mov (.tmp 17), none⟩,
  ⟨(some 59), .fld 1 (.tmp 16), none⟩,
  ⟨(some 60), .load none (.tmp 59), none⟩,
  ⟨(some 61), .mov (.tmp 17), none⟩,
  ⟨(some 62), .idx 4 (.tmp 60) (.tmp 61), none⟩,
  ⟨(some 63), .fld 2 (.tmp 62), none⟩,
  ⟨(some 64), .load none (.tmp 63), none⟩,
  ⟨(some 65), .mov (.tmp 5), none⟩,
  ⟨(some 66), .conv true .i64 (.tmp 65), none⟩,
  ⟨(some 67), .bin .add true (.tmp 64) (.tmp 66), none⟩,
  ⟨(some 68), .idx 4 (.tmp 57) (.tmp 58), none⟩,
  ⟨(some 69), .fld 2 (.tmp 68), none⟩,
  ⟨none, .store 1 (.tmp 69) (.tmp 67), none⟩])
  (.seq
  (.tail 15 0 [
  ⟨(some 70), .fld 1 (.tmp 16), none⟩,
  ⟨(some 71), .load none (.tmp 70), none⟩,
  ⟨(some 72), .mov (.tmp 17), none⟩,
  ⟨(some 73), .fld 1 (.tmp 16), none⟩,
  ⟨(some 74), .load none (.tmp 73), none⟩,
  ⟨(some 75), .mov (.tmp 17), none⟩,
  ⟨(some 76), .idx 4 (.tmp 74) (.tmp 75), none⟩,
  ⟨(some 77), .fld 3 (.tmp 76), none⟩,
  ⟨(some 78), .load none (.tmp 77), none⟩,
  ⟨(some 79), .mov (.tmp 6), none⟩,
  ⟨(some 80), .conv true .i64 (.tmp 79), none⟩,
  ⟨(some 81), .bin .sub true (.tmp 78) (.tmp 80), none⟩,
  ⟨(some 82), .minmax true (.tmp 81) (.const (.int .i64 0)), none⟩,
  ⟨(some 83), .idx 4 (.tmp 71) (.tmp 72), none⟩,
  ⟨(some 84), .fld 3 (.tmp 83), none⟩,
  ⟨none, .store 1 (.tmp 84) (.tmp 82), none⟩])
  (.frz [71] c8t))))))))

/- weirgate/weirgatelaw11.sanity params [] results [('tmp', [0])] ntmps 123 -/
theorem lw8f : rlF Try.prog 8 c8f = some (c8f, [.tmp 14], 142) := by kernel_rfl
end Go.Fx.C
namespace Go.Fx.C
open Go Go.Fx Go.Proofs
/-! An arc that can take more, and costs less. -/
def arcU (a : Arc) (mo le : Int) : Arc := ⟨a.from_, a.to, a.cap + mo, max (a.cost - le) 0⟩
section
variable {N : Nat} {arcs : List Arc} {k : Nat} {mo le : Int}
theorem gU (hk : k < arcs.length) (j : Nat) : gA (arcs.set k (arcU (arcs[k]) mo le)) j = if j = k then arcU (gA arcs k) mo le else gA arcs j := by
  by_cases e : j = k
  · subst e
    rw [if_pos rfl, gA_at (by simpa using hk), List.getElem_set_self, gA_at hk]
  · rw [if_neg e]
    unfold gA
    rw [List.getD_eq_getElem?_getD, List.getD_eq_getElem?_getD, List.getElem?_set_ne (Ne.symm e)]
theorem valU (hk : k < arcs.length) (v : Int) (x : List Int) : ∀ m, valTo (arcs.set k (arcU (arcs[k]) mo le)) v x m = valTo arcs v x m
  | 0 => rfl
  | m + 1 => by
    have e1 : ∀ A : List Arc, valTo A v x (m + 1) = valTo A v x m + (if (gA A m).from_ = v then x.getD m 0 else 0) - (if (gA A m).to = v then x.getD m 0 else 0) := fun _ => rfl
    rw [e1, e1, valU hk v x m, gU hk]
    split
    · rename_i e; subst e; rfl
    · rfl
theorem Val.up (hV : Val N arcs) (hk : k < arcs.length) (hc : ∀ a ∈ arcs, a.cap ≤ 1048576) (hmo : 0 ≤ mo ∧ mo ≤ 65536) (hle : 0 ≤ le) : Val N (arcs.set k (arcU (arcs[k]) mo le)) := by
  refine ⟨hV.hn, by rw [List.length_set]; exact hV.hl, fun a ha => ?_⟩
  rcases List.mem_or_eq_of_mem_set ha with h | rfl
  · exact hV.ha a h
  · have h1 := hV.ha _ (List.getElem_mem hk)
    have h2 := hc _ (List.getElem_mem hk)
    unfold arcU
    simp only
    have h3 := Int.le_max_right ((arcs[k]).cost - le) 0
    have h4 : max ((arcs[k]).cost - le) 0 ≤ 1048576 := Int.max_le.2 ⟨by omega, by omega⟩
    omega
theorem OkF.up {f t : Int} {x : List Int} (hk : k < arcs.length) (hmo : 0 ≤ mo) (h : OkF N arcs f t x) : OkF N (arcs.set k (arcU (arcs[k]) mo le)) f t x := by
  refine ⟨by rw [List.length_set]; exact h.hl, fun i h1 h2 => ?_, fun j h1 h2 h3 h4 => ?_⟩
  · rw [List.length_set] at h2
    have := h.hp i h1 h2
    by_cases e : i = k
    · subst e
      rw [List.getElem_set_self]
      unfold arcU
      simp only
      omega
    · rw [List.getElem_set_ne (Ne.symm e)]
      exact this
  · rw [List.length_set, valU hk]
    exact h.hz j h1 h2 h3 h4
theorem totU {f t : Int} {x : List Int} (hV : Val N arcs) (hk : k < arcs.length) (hle : 0 ≤ le) (h : OkF N arcs f t x) : ∀ m, m ≤ arcs.length → totTo (arcs.set k (arcU (arcs[k]) mo le)) x m ≤ totTo arcs x m
  | 0, _ => Int.le_refl _
  | m + 1, hm => by
    have ih := totU hV hk hle h m (by omega)
    have e1 : ∀ A : List Arc, totTo A x (m + 1) = totTo A x m + x.getD m 0 * (gA A m).cost := fun _ => rfl
    rw [e1, e1, gU hk]
    have hx := (h.at (show m < arcs.length by omega)).1
    have hc := hV.at (show m < arcs.length by omega)
    have : x.getD m 0 * (if m = k then arcU (gA arcs k) mo le else gA arcs m).cost ≤ x.getD m 0 * (gA arcs m).cost := by
      refine Int.mul_le_mul_of_nonneg_left ?_ hx
      split
      · rename_i e
        subst e
        unfold arcU
        simp only
        exact Int.max_le.2 ⟨by omega, by omega⟩
      · exact Int.le_refl _
    omega
/-- What is sent by one freight is at most what another one sends, of at most zas much, where there is more room. -/
theorem sent_up {f t am am2 : Int} {a b : Fr} (hV : Val N arcs) (hk : k < arcs.length) (hc : ∀ a ∈ arcs, a.cap ≤ 1048576) (hmo : 0 ≤ mo ∧ mo ≤ 65536) (hle : 0 ≤ le) (hf : 0 ≤ f ∧ f < N) (ht : 0 ≤ t ∧ t < N) (hft : f ≠ t)
    (ha : OkAc N arcs f t am a) (h : a.sent ≤ am2) (hb : OkAc N (arcs.set k (arcU (arcs[k]) mo le)) f t am2 b) : a.sent ≤ b.sent := by
  have hc2 := hb.hc
  split at hc2
  · rename_i e; rw [e]; exact h
  · have hV2 := hV.up (mo := mo) (le := le) hk hc hmo hle
    have hg : OkF N (arcs.set k (arcU (arcs[k]) mo le)) f t a.flow := ha.fl.up hk hmo.1
    have := cut_most hV2 hf ht hft hb.fl hg (fun v => hasB b.cut (v : Int)) (by rw [Int.toNat_of_nonneg hf.1]; exact hc2.hf) (by rw [Int.toNat_of_nonneg ht.1]; exact hc2.ht) (hc2.cut hV2 hf ht)
    rw [hb.hv, List.length_set, valU hk, ha.hv] at this
    exact this
theorem cost_up {f t am am2 : Int} {a c : Fr} (hV : Val N arcs) (hk : k < arcs.length) (hc : ∀ a ∈ arcs, a.cap ≤ 1048576) (hmo : 0 ≤ mo ∧ mo ≤ 65536) (hle : 0 ≤ le) (hf : 0 ≤ f ∧ f < N) (ht : 0 ≤ t ∧ t < N) (hft : f ≠ t)
    (ha : OkAc N arcs f t am a) (hb : OkAc N (arcs.set k (arcU (arcs[k]) mo le)) f t am2 c) (he : c.sent = a.sent) : c.cost ≤ a.cost := by
  have hV2 := hV.up (mo := mo) (le := le) hk hc hmo hle
  have hg : OkF N (arcs.set k (arcU (arcs[k]) mo le)) f t a.flow := ha.fl.up hk hmo.1
  have h1 := cheaper hV2 hf ht hft hb.fl hg hb.hp.slack
  have h2 := totU (mo := mo) hV hk hle ha.fl arcs.length (Nat.le_refl _)
  have h3 : valTo (arcs.set k (arcU (arcs[k]) mo le)) f a.flow (arcs.set k (arcU (arcs[k]) mo le)).length = a.sent := by
    rw [List.length_set, valU hk, ha.hv]
  rw [h3, hb.hv, he, Int.sub_self, Int.mul_zero, hb.ht] at h1
  rw [List.length_set] at h1
  rw [ha.ht] at h2
  omega
end
end Go.Fx.C
namespace Go.Fx.C
open Go Go.Fx Go.Proofs
set_option maxRecDepth 20000
theorem tail8 {N : Nat} {arcs arcs2 : List Arc} {f t : Nat} {am : Int} {a2 : Nat} (hV : Val N arcs) (hV2 : Val N arcs2) (hN : N ≤ 12) (hl : arcs.length ≤ 30) (hl2 : arcs2.length ≤ 30) (hf : f < N) (ht : t < N) (hft : f ≠ t) (ham : 0 ≤ am ∧ am ≤ 2199023255552)
    (htask : ∀ am2 : Int, 0 ≤ am2 ∧ am2 ≤ 2199023255552 → taskP N f t am2 = true)
    (hs : ∀ a b : Fr, OkAc N arcs f t am a → OkAc N arcs2 f t am b → a.sent ≤ b.sent)
    (hs2 : ∀ a c : Fr, OkAc N arcs f t am a → OkAc N arcs2 f t a.sent c → c.sent = a.sent ∧ c.cost ≤ a.cost) {X : Nat → St → Prop} {N0 : St → Prop} {e : Env} {h : List Blk} {b : Nat}
    (e7 : get e 7 = .ptr 0 0 0) (e16 : get e 16 = .ptr 3 0 0) (e1 : get e 1 = .i f) (e2 : get e 2 = .i t) (e3 : get e 3 = .i am)
    (hh : h = [.var [.i N, .ro 4 (arcs.map Arc.enc)], .dead, .dead, .var [.i N, .ro 4 (arcs2.map Arc.enc)]]) :
    aw (cxN Try.prog []) c8t N0 X (retP [] 0 [.tmp 14] (Is (.b true))) ⟨e, h, b⟩ := by
  subst hh
  unfold c8t
  simp -implicitDefEqProofs only [qF, qI, qP, qR, qV, zD, zH, zJ, zN, List.length_nil, List.length_cons, zO, List.getD_eq_getElem?_getD, List.getElem?_cons_zero, ↓reduceIte, Nat.reduceEqDiff, Option.getD_some, List.nil_append, List.cons_append, Nat.zero_add, Nat.reduceAdd, List.map_cons, List.map_nil, List.drop_zero, List.take_nil, true_and, Nat.le_refl, ka, kc, ki, jq, ↓ju, ↓jx, ↓jB, cxN, e7, e1, e2, e3]
  refine call_isM (fun fr => OkAc N arcs f t am fr) [] [] [] [net N arcs, .i f, .i t, .i (am)] (fun fr => .tup [fr.enc, .i 0]) [] (fun _ => []) (ok13 hV (by omega) hf ht hft (by omega) ham (htask _ ham)) (by simp) (by simp) rfl (by simp [net, lendsOk, lendOk, lends, lend, wkL, wk, wkR]) fun a hA => ⟨trivial, ?_⟩
  simp -implicitDefEqProofs only [qF, qI, qO, qP, qR, qU, qV, qW, zD, zE, zH, zI, zJ, zN, ofConst, cells?, List.length_nil, List.length_cons, List.set_cons_zero, splice, zO, List.getD_eq_getElem?_getD, List.getElem?_cons_zero, ↓reduceIte, Nat.reduceEqDiff, Option.getD_some, List.nil_append, List.cons_append, List.append_nil, Nat.zero_add, Nat.reduceAdd, Nat.add_zero, freshP, killE, killB, kill, kills, St.kill, List.map_cons, List.map_nil, List.drop_zero, List.take_zero, List.take_nil, List.drop_nil, List.all_cons, List.all_nil, isC, Bool.and_true, Bool.and_self, true_and, and_true, and_self, List.not_mem_nil, not_false_eq_true, Nat.le_refl, lg0, zY, zZ, ka, kc, lg1, kg, kh, ki, lg2, kk, kn, lg3, kr, kw, kA, jq, ↓jr, ↓ju, ↓jx, ↓jB, ↓jC, ↓jD, ↓jT, Fr.enc, li, ren, rens, setAll, List.map_nil, e16, e1, e2, e3, get_killE, kill]
  refine call_isM (fun fr => OkAc N arcs2 f t am fr) [] [] [] [net N arcs2, .i f, .i t, .i (am)] (fun fr => .tup [fr.enc, .i 0]) [] (fun _ => []) (ok13 hV2 (by omega) hf ht hft (by omega) ham (htask _ ham)) (by simp) (by simp) rfl (by simp [net, lendsOk, lendOk, lends, lend, wkL, wk, wkR]) fun b hB => ⟨trivial, ?_⟩
  simp -implicitDefEqProofs only [qE, qF, qI, qJ, qN, qO, qP, qQ, qR, qS, qU, qV, qW, qX, qZ, zD, zE, zH, zI, zJ, zK, zN, ofConst, cells?, List.length_nil, List.length_cons, List.set_cons_zero, splice, zO, List.getD_eq_getElem?_getD, List.getElem?_cons_zero, ↓reduceIte, Nat.reduceEqDiff, Option.getD_some, zP, zR, Bool.not_false, ↓zS, ↓zT, zU, List.nil_append, List.cons_append, List.append_nil, Nat.zero_add, Nat.reduceAdd, Nat.add_zero, freshP, zW, resP, tupV, List.reverse_cons, List.reverse_nil, wfV, killE, killB, kill, kills, St.kill, List.map_cons, List.map_nil, List.drop_zero, List.take_zero, List.take_nil, List.drop_nil, List.all_cons, List.all_nil, isC, Bool.and_true, Bool.and_self, true_and, and_true, and_self, V.v.injEq, Value.int.injEq, Value.bool.injEq, List.not_mem_nil, not_false_eq_true, Bool.false_eq_true, Nat.le_refl, lg0, zY, zZ, ka, kc, lg1, kg, kh, ki, lg2, kk, kn, lg3, kr, kw, lg4, kz, kA, jq, ↓jr, ↓ju, ↓jx, ↓jA, ↓jB, ↓jC, ↓jD, ↓jG, ↓jT, ↓qaS, ↓qaT, Fr.enc, li, ren, rens, setAll, List.map_nil, e16, e1, e2, get_killE, kill]
  have hd : decide (b.sent < a.sent) = false := decide_eq_false (by have := hs a b hA hB; omega)
  simp only [bne_self_eq_false, zT, hd]
  have has := hA.hs
  refine call_isM (fun fr => OkAc N arcs2 f t a.sent fr) [] [] [] [net N arcs2, .i f, .i t, .i (a.sent)] (fun fr => .tup [fr.enc, .i 0]) [] (fun _ => []) (ok13 hV2 (by omega) hf ht hft (by omega) ⟨has.1, by omega⟩ (htask _ ⟨has.1, by omega⟩)) (by simp) (by simp) rfl (by simp [net, lendsOk, lendOk, lends, lend, wkL, wk, wkR]) fun c hC => ⟨trivial, ?_⟩
  simp -implicitDefEqProofs only [qF, qI, qO, qP, qR, qU, qW, zD, zE, zH, zI, zJ, zN, ofConst, cells?, List.length_nil, List.length_cons, List.set_cons_zero, splice, zO, List.getD_eq_getElem?_getD, List.getElem?_cons_zero, ↓reduceIte, Nat.reduceEqDiff, Option.getD_some, List.nil_append, List.cons_append, List.append_nil, Nat.zero_add, Nat.reduceAdd, Nat.add_zero, freshP, killE, killB, kill, kills, St.kill, List.map_cons, List.map_nil, List.take_zero, List.drop_nil, List.all_cons, List.all_nil, isC, Bool.and_true, Bool.and_self, true_and, and_true, and_self, List.not_mem_nil, not_false_eq_true, Nat.le_refl, lg0, zY, zZ, lg1, kg, kh, lg2, kk, kn, lg3, kr, kw, lg4, kz, kA, lg5, kD, jq, ↓jr, ↓jC, ↓jD, ↓jT, Fr.enc, li, ren, rens, setAll, List.map_nil, kill]
  refine call9 rfl rfl ?_
  obtain ⟨q1, q2⟩ := hs2 a c hA hC
  have hd2 : decide (c.cost ≤ a.cost) = true := decide_eq_true q2
  simp -implicitDefEqProofs only [qN, qO, qP, qQ, qR, qS, qV, qX, qZ, zH, zJ, zK, zN, ofConst, zO, List.getD_eq_getElem?_getD, List.getElem?_cons_zero, ↓reduceIte, Nat.reduceEqDiff, Option.getD_some, zP, zR, Bool.not_true, ↓zS, ↓zT, zU, List.nil_append, Nat.zero_add, Nat.add_zero, zW, resP, tupV, List.reverse_cons, List.reverse_nil, wfV, Bool.and_self, true_and, and_self, V.v.injEq, Value.int.injEq, Value.bool.injEq, Bool.false_eq_true, lg0, lg1, lg2, lg3, lg4, lg5, ↓jr, ↓ju, ↓jx, ↓jA, ↓jG, ↓qaR, ↓qaU, q1, hd2, beq_self_eq_true]
end Go.Fx.C
namespace Go.Fx.C
open Go Go.Fx Go.Proofs
set_option maxRecDepth 20000
theorem aw_frz {cx : Cx} {xs : List Nat} {c : LCode} {N R : St → Prop} {X : Nat → St → Prop} {e : Env} {h : List Blk} {b : Nat} : aw cx (.frz xs c) N X R ⟨e, h, b⟩ = frzP cx.fx xs ⟨e, h, b⟩ fun s' => aw cx c N X R s' := rfl
def frzQ (fx : List Nat) (v : V) (r : List Nat) (s : St) (K : St → Prop) : Prop :=
  match v with
  | .sl k _ _ => frz1 fx k (blk s.h k) s fun s' => frzP fx r s' K
  | _ => frzP fx r s K
theorem frzP_n {fx : List Nat} {s : St} {K : St → Prop} : frzP fx [] s K = K s := rfl
theorem frzP_c {fx : List Nat} {x : Nat} {r : List Nat} {e : Env} {h : List Blk} {b : Nat} {K : St → Prop} : frzP fx (x :: r) ⟨e, h, b⟩ K = frzQ fx (get e x) r ⟨e, h, b⟩ K := rfl
theorem frzQ_s {fx : List Nat} {k i n : Nat} {r : List Nat} {e : Env} {h : List Blk} {b : Nat} {K : St → Prop} : frzQ fx (.sl k i n) r ⟨e, h, b⟩ K = frz1 fx k (blk h k) ⟨e, h, b⟩ fun s' => frzP fx r s' K := rfl
theorem frz1_a {fx : List Nat} {k sz : Nat} {els : List (List V)} {e : Env} {h : List Blk} {b : Nat} {K : St → Prop} : frz1 fx k (.arr sz els) ⟨e, h, b⟩ K = (k ∉ fx ∧ K ⟨frzE k sz els e, (h.map (frzB k sz els)).set k .dead, b⟩) := rfl
@[congr] theorem c_frzQ {fx : List Nat} {v v' : V} {r : List Nat} {s : St} {K : St → Prop} (q : v = v') : frzQ fx v r s K = frzQ fx v' r s K := by rw [q]
@[congr] theorem c_frz1 {fx : List Nat} {k : Nat} {B B' : Blk} {s : St} {K : St → Prop} (q : B = B') : frz1 fx k B s K = frz1 fx k B' s K := by rw [q]
@[congr] theorem c_frzP {fx xs : List Nat} {s s' : St} {K : St → Prop} (q : s = s') : frzP fx xs s K = frzP fx xs s' K := by rw [q]
theorem enc_t2 {a : Arc} : List.take 2 a.enc = [.i a.from_, .i a.to] := rfl
theorem enc_d3 {a : Arc} : List.drop 3 a.enc = [.i a.cost] := rfl
theorem enc_t3 {a : Arc} : List.take 3 a.enc = [.i a.from_, .i a.to, .i a.cap] := rfl
theorem enc_d4 {a : Arc} : List.drop 4 a.enc = [] := rfl
theorem enc_set {l : List Arc} {k : Nat} {a b c d : Int} : (l.map Arc.enc).set k [.i a, .i b, .i c, .i d] = (l.set k ⟨a, b, c, d⟩).map Arc.enc := by
  rw [List.map_set]; rfl
theorem ok8 (n : Int) (arcs : List Arc) (f t am : Int) (pl mo le : Int) (hpl : 0 ≤ pl ∧ pl < 256) (hmo : 0 ≤ mo ∧ mo < 65536) (hle : 0 ≤ le ∧ le < 65536) : Ok 8 [net n arcs, .i f, .i t, .i am, .v (.int .u8 pl), .v (.int .u16 mo), .v (.int .u16 le)] (Is (.b true)) := by
  refine ok_of lw8f (by simp) ?_
  unfold c8f net
  simp -implicitDefEqProofs only [qF, qI, qO, qP, qR, qT, qV, zD, zH, zJ, zK, zN, ofConst, cells?, List.length_nil, List.length_cons, List.set_cons_zero, zO, List.getD_eq_getElem?_getD, List.getElem?_cons_zero, ↓reduceIte, Nat.reduceEqDiff, Option.getD_some, List.nil_append, List.append_nil, Nat.zero_add, Nat.reduceAdd, Nat.add_zero, freshP, List.map_cons, List.map_nil, List.drop_zero, List.take_nil, true_and, Nat.le_refl, ka, kc, ki, jq, ↓jr, ↓ju, ↓jx, ↓jB, cxN, args0]
  refine call_is (ok14 n 1048576 arcs) (by simp [net, lendsOk, lendOk, lends, lend, wkL, wk, wkR]) rfl trivial ?_
  cases hfew : fewB n arcs 1048576 with
  | false =>
    simp -implicitDefEqProofs only [qF, qI, qJ, qO, qP, qQ, qR, qS, zd, zD, zH, zJ, zK, zN, ofConst, List.length_nil, List.length_cons, ↓reduceIte, Nat.reduceEqDiff, zQ, zR, Bool.not_false, ↓zS, zU, List.append_nil, Nat.zero_add, List.map_nil, Bool.false_eq_true, jq]
    refine call9 rfl rfl ?_
    simp -implicitDefEqProofs only [qN, qO, qP, qR, zH, zJ, zN, ↓reduceIte, List.nil_append, zW, resP, tupV, List.reverse_cons, List.reverse_nil, wfV, Bool.and_self, and_self]
  | true =>
  have hcaps : ∀ a ∈ arcs, a.cap ≤ 1048576 := by
    simp only [fewB, Bool.and_eq_true, decide_eq_true_eq, List.all_eq_true] at hfew
    exact hfew.2
  obtain ⟨N, rfl, hV, hN, hL⟩ := few_val hfew
  simp -implicitDefEqProofs only [qF, qI, qJ, qO, qP, qQ, qR, qS, qV, qX, qZ, zb, zd, zD, zH, zJ, zK, zN, ofConst, List.length_nil, List.length_cons, zO, List.getD_eq_getElem?_getD, List.getElem?_cons_zero, ↓reduceIte, Nat.reduceEqDiff, Option.getD_some, zP, zQ, zR, Bool.not_true, Bool.not_false, ↓zS, ↓zT, zU, List.append_nil, Nat.zero_add, Nat.reduceAdd, reduceCtorEq, List.map_cons, List.map_nil, List.drop_zero, List.take_nil, true_and, List.length_map, Bool.false_eq_true, Nat.le_refl, lg0, ka, ki, jq, ↓jr, ↓ju, ↓jx, ↓jA, ↓jB, ↓jG, ↓jO, ↓qaR, List.length_map]
  intro _
  simp only [br, beq_iff_eq, beq_eq_false_iff_ne]
  refine ⟨fun _ => ?_, fun hne => ?_⟩
  · refine call9 rfl rfl ?_
    simp -implicitDefEqProofs only [qN, qO, qP, qR, zH, zJ, zN, ↓reduceIte, List.nil_append, zW, resP, tupV, List.reverse_cons, List.reverse_nil, wfV, Bool.and_self, and_self]
  refine call_is (ok12 N arcs f t am) (by simp [net, lendsOk, lendOk, lends, lend, wkL, wk, wkR]) rfl trivial ?_
  cases ht : taskB N arcs f t am with
  | false =>
    simp -implicitDefEqProofs only [qF, qI, qJ, qO, qP, qQ, qS, zd, zD, zH, zJ, zN, List.length_nil, List.length_cons, ↓reduceIte, Nat.reduceEqDiff, zQ, zR, Bool.not_false, ↓zS, ↓zT, zU, List.append_nil, Nat.zero_add, List.map_nil, Bool.false_eq_true, jq]
    refine call9 rfl rfl ?_
    simp -implicitDefEqProofs only [qN, qO, qP, qR, zH, zJ, zN, ↓reduceIte, List.nil_append, zW, resP, tupV, List.reverse_cons, List.reverse_nil, wfV, Bool.and_self, and_self]
  | true =>
  have htask : ∀ am2 : Int, 0 ≤ am2 ∧ am2 ≤ 2199023255552 → taskP N f t am2 = true := by
    intro am2 h
    simp only [taskB, taskP, Bool.and_eq_true, decide_eq_true_eq] at ht ⊢
    exact ⟨ht.2.1, ht.2.2.1, ht.2.2.2.1, h⟩
  obtain ⟨hf, htt, hft, ham⟩ := task_in ht
  obtain ⟨f, rfl⟩ : ∃ f' : Nat, f = f' := ⟨f.toNat, by omega⟩
  obtain ⟨t, rfl⟩ : ∃ t' : Nat, t = t' := ⟨t.toNat, by omega⟩
  obtain ⟨pl, rfl⟩ : ∃ p' : Nat, pl = p' := ⟨pl.toNat, by omega⟩
  obtain ⟨k, hk, hkm⟩ : ∃ k : Nat, k < arcs.length ∧ (pl : Int).tmod arcs.length = k := ⟨pl % arcs.length, Nat.mod_lt _ (by omega), (Int.ofNat_tmod pl arcs.length).symm⟩
  have hak := hV.ha arcs[k] (List.getElem_mem hk)
  have hck := hcaps arcs[k] (List.getElem_mem hk)
  have tl := fun (e : Env) (b : Nat) e7 e16 e1 e2 e3 (X : Nat → St → Prop) (N0 : St → Prop) => tail8 (X := X) (N0 := N0) (e := e) (b := b) (a2 := 0) hV (hV.up (mo := mo) (le := le) hk hcaps (by omega) hle.1) hN hL (by rw [List.length_set]; exact hL) (by omega) (by omega) (by omega) ham htask
    (fun a b ha hb => sent_up hV hk hcaps (by omega) hle.1 hf htt hft ha ha.hs.2 hb)
    (fun a c ha hc => by
      have h1 := sent_up hV hk hcaps (by omega) hle.1 hf htt hft ha (Int.le_refl _) hc
      have h2 := hc.hs.2
      have h3 : c.sent = a.sent := by omega
      exact ⟨h3, cost_up hV hk hcaps (by omega) hle.1 hf htt hft ha hc h3⟩) e7 e16 e1 e2 e3 rfl
  unfold arcU at tl
  have etk : ∀ x : Arc, List.take arcs.length ((arcs.set k x).map Arc.enc) = (arcs.set k x).map Arc.enc := fun x => List.take_of_length_le (by simp)
  simp -implicitDefEqProofs only [qc, qp, qw, rdK, qx, qy, qz, qA, qC, qE, qF, qG, qI, qJ, qO, qP, qQ, qR, qS, qU, qV, qW, qX, qY, qZ, zb, zd, zf, zg, zk, zp, zr, zH, zI, zJ, zK, zN, ofConst, cells?, List.length_nil, List.length_cons, List.set_cons_zero, splice, zO, List.getD_eq_getElem?_getD, List.getElem?_cons_zero, ↓reduceIte, Nat.reduceEqDiff, Option.getD_some, zP, zQ, arrSz, zR, Bool.not_true, ↓zT, zU, List.nil_append, List.cons_append, List.append_nil, Nat.zero_add, Nat.reduceAdd, Nat.add_zero, reduceCtorEq, freshP, buildP, litsP, killE, killB, kill, kills, St.kill, List.map_cons, List.map_nil, List.drop_zero, List.take_zero, List.take_nil, List.drop_nil, List.all_cons, List.all_nil, isD, isC, Bool.and_true, Bool.and_self, true_and, and_true, and_self, List.mem_cons, List.not_mem_nil, or_false, List.length_append, List.length_map, not_false_eq_true, Bool.false_eq_true, Nat.reduceLeDiff, Nat.le_refl, lg0, zY, zZ, ka, kc, lg1, kg, kh, ki, kj, lg2, kk, kn, ko, kq, kw, jq, ↓jr, ↓ju, ↓jx, ↓jy, ↓jA, ↓jC, ↓jD, ↓jE, ↓jG, ↓jI, ↓jN, ↓qaa, ↓qap, ↓qaq, ↓qaL, ↓qaN, ↓qaZ, List.length_map, List.getElem_map, enc_2, Int.toNat_natCast, hkm, enc_t2, enc_d3, enc_set, List.cons_append, List.nil_append, List.getElem_set_self, List.set_set, List.length_set, aw_frz, frzP_n, frzP_c, frzQ_s, frz1_a, frzE, frzB, frzV, frzL, etk]
  refine ⟨⟨?_, ?_⟩, ?_⟩
  all_goals exact ⟨.inr trivial, by omega, by simp only [lo, hi]; omega, fun _ => ⟨by omega, ⟨by omega, by omega⟩, hk, by simp only [lo, hi]; omega, by simp only [lo, hi]; omega, ⟨by omega, by omega⟩, hk, ⟨by omega, by omega⟩, hk, by simp only [lo, hi]; omega, by simp only [lo, hi]; omega, ⟨by omega, by omega⟩, hk, tl _ _ rfl rfl rfl rfl rfl _ _⟩⟩
end Go.Fx.C
namespace Go.Fx.C
open Go Go.Fx Go.Proofs
theorem ex_map {α β : Type} {g : α → β} : ∀ {els : List β}, (∀ x ∈ els, ∃ a, x = g a) → ∃ l : List α, els = l.map g
  | [], _ => ⟨[], rfl⟩
  | x :: r, h => by
    obtain ⟨a, rfl⟩ := h x List.mem_cons_self
    obtain ⟨l, rfl⟩ := ex_map (els := r) fun y hy => h y (List.mem_cons_of_mem _ hy)
    exact ⟨a :: l, rfl⟩
abbrev tArc : Fx.T := .st [.int .i64, .int .i64, .int .i64, .int .i64]
abbrev tNet : Fx.T := .st [.int .i64, .sl 4 tArc]
abbrev tLi : Fx.T := .sl 1 (.int .i64)
abbrev tFr : Fx.T := .st [.int .i64, .int .i64, tLi, tLi, tLi]
theorem wf_arc {x : List V} (h : WfT tArc x) : ∃ a : Arc, x = a.enc := by
  simp only [WfT, WfTs] at h
  obtain ⟨_, _, rfl, ⟨a, rfl, _⟩, _, _, rfl, ⟨b, rfl, _⟩, _, _, rfl, ⟨c, rfl, _⟩, _, _, rfl, ⟨d, rfl, _⟩, rfl⟩ := h
  exact ⟨⟨a, b, c, d⟩, rfl⟩
theorem wf_net {x : V} (h : WfV tNet x) : ∃ n arcs, x = net n arcs := by
  obtain ⟨cs, h, rfl⟩ := h
  rw [WfTs.eq_2] at h
  obtain ⟨a, b, rfl, h1, h2⟩ := h
  rw [WfTs.eq_2] at h2
  obtain ⟨c, d, rfl, h3, h4⟩ := h2
  rw [WfTs.eq_1] at h4
  subst h4
  simp only [WfT] at h1
  obtain ⟨n, rfl, _⟩ := h1
  rw [WfT] at h3
  obtain ⟨els, rfl, _, he⟩ := h3
  obtain ⟨arcs, rfl⟩ := ex_map (fun x hx => wf_arc (he x hx))
  exact ⟨n, arcs, rfl⟩
theorem wf_int {x : V} (h : WfV (.int .i64) x) : ∃ n, x = .i n := by
  simp only [WfV, WfT] at h
  obtain ⟨n, h, _⟩ := h
  exact ⟨n, by simpa using h⟩
theorem wf_l {x : List V} (h : WfT tLi x) : ∃ l, x = [li l] := by
  rw [WfT] at h
  obtain ⟨els, h1, _, he⟩ := h
  obtain ⟨l, rfl⟩ := ex_map (g := encI) (fun x hx => by
    have := he x hx
    simp only [WfT] at this
    obtain ⟨n, rfl, _⟩ := this
    exact ⟨n, rfl⟩)
  exact ⟨l, by simpa [li] using h1⟩
theorem wf_li {x : V} (h : WfV tLi x) : ∃ l, x = li l := by
  simp only [WfV] at h
  obtain ⟨l, h⟩ := wf_l h
  exact ⟨l, by simpa using h⟩
theorem wf_fr {x : V} (h : WfV tFr x) : ∃ f : Fr, x = f.enc := by
  obtain ⟨cs, h, rfl⟩ := h
  rw [WfTs.eq_2] at h
  obtain ⟨a, _, rfl, h1, h⟩ := h
  rw [WfTs.eq_2] at h
  obtain ⟨b, _, rfl, h2, h⟩ := h
  rw [WfTs.eq_2] at h
  obtain ⟨c, _, rfl, h3, h⟩ := h
  rw [WfTs.eq_2] at h
  obtain ⟨d, _, rfl, h4, h⟩ := h
  rw [WfTs.eq_2] at h
  obtain ⟨e, _, rfl, h5, h⟩ := h
  rw [WfTs.eq_1] at h
  subst h
  simp only [WfT] at h1 h2
  obtain ⟨s, rfl, _⟩ := h1
  obtain ⟨k, rfl, _⟩ := h2
  obtain ⟨l1, rfl⟩ := wf_l h3
  obtain ⟨l2, rfl⟩ := wf_l h4
  obtain ⟨l3, rfl⟩ := wf_l h5
  exact ⟨⟨s, k, l1, l2, l3⟩, rfl⟩
theorem fn_of {f : FuncId} {xs : List V} (h : Ok f xs (Is (.b true))) : Fn Try.prog f xs [] [] (fun r _ => r = .b true) := (okN_post h fun r h' hr => hr.1).2
theorem fn3 : ∀ xs, WfA [tNet, .int .i64, .int .i64, .int .i64] xs → Fn Try.prog 3 xs [] [] (fun r _ => r = .b true) := by
  intro xs h
  obtain ⟨x1, _, rfl, h1, h⟩ := h
  obtain ⟨x2, _, rfl, h2, h⟩ := h
  obtain ⟨x3, _, rfl, h3, h⟩ := h
  obtain ⟨x4, _, rfl, h4, h⟩ := h
  obtain rfl : _ = [] := h
  obtain ⟨n, arcs, rfl⟩ := wf_net h1
  obtain ⟨f, rfl⟩ := wf_int h2
  obtain ⟨t, rfl⟩ := wf_int h3
  obtain ⟨am, rfl⟩ := wf_int h4
  exact fn_of (ok3 n arcs f t am)
theorem fn5 : ∀ xs, WfA [tNet, .int .i64, .int .i64, .int .i64, tFr] xs → Fn Try.prog 5 xs [] [] (fun r _ => r = .b true) := by
  intro xs h
  obtain ⟨x1, _, rfl, h1, h⟩ := h
  obtain ⟨x2, _, rfl, h2, h⟩ := h
  obtain ⟨x3, _, rfl, h3, h⟩ := h
  obtain ⟨x4, _, rfl, h4, h⟩ := h
  obtain ⟨x5, _, rfl, h5, h⟩ := h
  obtain rfl : _ = [] := h
  obtain ⟨n, arcs, rfl⟩ := wf_net h1
  obtain ⟨f, rfl⟩ := wf_int h2
  obtain ⟨t, rfl⟩ := wf_int h3
  obtain ⟨am, rfl⟩ := wf_int h4
  obtain ⟨fr, rfl⟩ := wf_fr h5
  exact fn_of (ok5 n arcs f t am fr)
theorem fn7 : ∀ xs, WfA [tNet, .int .i64, .int .i64, .int .i64, tFr, tLi] xs → Fn Try.prog 7 xs [] [] (fun r _ => r = .b true) := by
  intro xs h
  obtain ⟨x1, _, rfl, h1, h⟩ := h
  obtain ⟨x2, _, rfl, h2, h⟩ := h
  obtain ⟨x3, _, rfl, h3, h⟩ := h
  obtain ⟨x4, _, rfl, h4, h⟩ := h
  obtain ⟨x5, _, rfl, h5, h⟩ := h
  obtain ⟨x6, _, rfl, h6, h⟩ := h
  obtain rfl : _ = [] := h
  obtain ⟨n, arcs, rfl⟩ := wf_net h1
  obtain ⟨f, rfl⟩ := wf_int h2
  obtain ⟨t, rfl⟩ := wf_int h3
  obtain ⟨am, rfl⟩ := wf_int h4
  obtain ⟨fr, rfl⟩ := wf_fr h5
  obtain ⟨g, rfl⟩ := wf_li h6
  exact fn_of (ok7 n arcs f t am fr g)
end Go.Fx.C
namespace Go.Fx.C
open Go Go.Fx Go.Proofs
theorem wf_k {k : IntKind} {x : V} (h : WfV (.int k) x) : ∃ n, x = .v (.int k n) ∧ lo k ≤ n ∧ n ≤ hi k := by
  simp only [WfV, WfT] at h
  obtain ⟨n, h, h2⟩ := h
  exact ⟨n, by simpa using h, h2⟩
theorem fn8 : ∀ xs, WfA [tNet, .int .i64, .int .i64, .int .i64, .int .u8, .int .u16, .int .u16] xs → Fn Try.prog 8 xs [] [] (fun r _ => r = .b true) := by
  intro xs h
  obtain ⟨x1, _, rfl, h1, h⟩ := h
  obtain ⟨x2, _, rfl, h2, h⟩ := h
  obtain ⟨x3, _, rfl, h3, h⟩ := h
  obtain ⟨x4, _, rfl, h4, h⟩ := h
  obtain ⟨x5, _, rfl, h5, h⟩ := h
  obtain ⟨x6, _, rfl, h6, h⟩ := h
  obtain ⟨x7, _, rfl, h7, h⟩ := h
  obtain rfl : _ = [] := h
  obtain ⟨n, arcs, rfl⟩ := wf_net h1
  obtain ⟨f, rfl⟩ := wf_int h2
  obtain ⟨t, rfl⟩ := wf_int h3
  obtain ⟨am, rfl⟩ := wf_int h4
  obtain ⟨a, rfl, ha⟩ := wf_k h5
  obtain ⟨b, rfl, hb⟩ := wf_k h6
  obtain ⟨c, rfl, hc⟩ := wf_k h7
  simp only [lo, hi] at ha hb hc
  exact fn_of (ok8 n arcs f t am a b c (by omega) (by omega) (by omega))
end Go.Fx.C
