import Derived.Test.YtemlboicdekgbaaFxRunSound
import Derived.Test.YtemlboicdekgbaaPSan
import Derived.Test.YtemlboicdekgbaaFxRunDefs
set_option linter.unusedVariables false
set_option linter.unusedSimpArgs false
set_option linter.unusedSectionVars false
namespace Go.Fx.P
open Go Go.Fx Go.Proofs
set_option maxRecDepth 20000
theorem ok10 : Ok 10 [] (Is (.b true)) := san
theorem meets_once {b : List Allot} (h : OnceB b) (x : Allot) : meets b x = (meet1 b x).toList := by
  unfold meets meet1
  have key : ∀ (l : List Allot), (∀ i j (hi : i < l.length) (hj : j < l.length), j < i → sameP l[i] l[j] = false) → l.filter (sameP x) = (l.find? (sameP x)).toList := by
    intro l
    induction l with
    | nil => intro _; rfl
    | cons y l ih =>
      intro hl
      by_cases hy : sameP x y = true
      · have hn : l.filter (sameP x) = [] := by
          rw [List.filter_eq_nil_iff]
          intro z hz h2
          obtain ⟨i, hi, rfl⟩ := List.getElem_of_mem hz
          have h3 := hl (i + 1) 0 (by simp; omega) (by simp) (by omega)
          simp only [List.getElem_cons_succ, List.getElem_cons_zero] at h3
          simp only [sameP, Bool.and_eq_true, beq_iff_eq] at hy h2
          have : sameP l[i] y = true := by simp only [sameP, Bool.and_eq_true, beq_iff_eq]; omega
          rw [h3] at this; cases this
        simp [List.filter_cons, List.find?_cons, hy, hn]
      · have hy' : sameP x y = false := by simpa using hy
        simp only [List.filter_cons, List.find?_cons, hy', Bool.false_eq_true, if_false]
        exact ih fun i j hi hj hji => hl (i + 1) (j + 1) (by simp; omega) (by simp; omega) (by omega)
  rw [key b h]
  cases b.find? (sameP x) <;> rfl
theorem rbtw_once {a b : List Allot} (h : OnceB b) : rbtw a b = btw a b := by
  unfold rbtw btw
  induction a with
  | nil => rfl
  | cons x a ih =>
    rw [List.flatMap_cons, ih, meets_once h, List.filterMap_cons]
    cases meet1 b x <;> rfl
theorem ok8 (a b : List Allot) : Ok 8 [als a, als b] (Is (.b true)) := by
  refine ok_of lw8 (by simp) ?_
  unfold c8 als
  have s10 : ∀ {cx : Cx} {e : Env} {h : List Blk} {b : Nat} {K : V → St → Prop}, cx.C = C0 Try.prog → cx.fx = [] → K (.b true) ⟨e, h, b⟩ → callP cx 10 [] ⟨e, h, b⟩ K := by
    intro cx e h b K hc hf hk
    exact call_is (by rw [hc]; exact ok10) (by simp [lendsOk, lends, wkL]) rfl (by rw [hf]; trivial) hk
  simp -implicitDefEqProofs only [qW, qZ, za, zf, zg, zh, zi, zj, zq, zr, kw, kA, kC, kD, kH, ofConst, List.length_nil, ↓reduceIte, Nat.reduceEqDiff, kJ, kL, Bool.not_false, ↓kM, ↓kN, kO, List.append_nil, Nat.zero_add, reduceCtorEq, List.map_cons, List.map_nil, true_and, List.length_map, Bool.false_eq_true, jX, ↓qav, ↓qcc, List.length_map, cxN, args0]
  simp only [br, decide_eq_true_eq, decide_eq_false_iff_not]
  intro hm1
  refine ⟨fun h1 => ?_, fun h1 => fun hm2 => ⟨fun h2 => ?_, fun h2 => ?_⟩⟩
  · refine s10 rfl rfl ?_
    simp -implicitDefEqProofs only [ze, zf, zg, zi, kA, kC, kH, ↓reduceIte, List.nil_append, kQ, resP, tupV, List.reverse_cons, List.reverse_nil, wfV, Bool.and_self, and_self]
  · refine s10 rfl rfl ?_
    simp -implicitDefEqProofs only [ze, zf, zg, zi, kA, kC, kH, ↓reduceIte, List.nil_append, kQ, resP, tupV, List.reverse_cons, List.reverse_nil, wfV, Bool.and_self, and_self]
  refine call_is (ok34 a) (by simp [als, lendsOk, lendOk, lends, lend, wkL, wk, wkR]) rfl trivial ?_
  cases ha : onceB a with
  | false =>
    simp -implicitDefEqProofs only [qW, qZ, za, zf, zg, zh, zi, zj, zu, kw, kA, kC, kD, kH, ofConst, List.length_nil, ↓reduceIte, Nat.reduceEqDiff, kK, kL, Bool.not_false, ↓kM, ↓kN, kO, List.append_nil, List.map_nil, Bool.false_eq_true, jX]
    refine s10 rfl rfl ?_
    simp -implicitDefEqProofs only [ze, zf, zg, zi, kA, kC, kH, ↓reduceIte, List.nil_append, kQ, resP, tupV, List.reverse_cons, List.reverse_nil, wfV, Bool.and_self, and_self]
  | true =>
  simp -implicitDefEqProofs only [zg, zh, zi, zj, zu, kw, kA, kC, kH, ↓reduceIte, Nat.reduceEqDiff, kK, kL, Bool.not_true, ↓kN, kO, reduceCtorEq, List.map_cons, List.map_nil, Bool.false_eq_true]
  refine call_is (ok34 b) (by simp [als, lendsOk, lendOk, lends, lend, wkL, wk, wkR]) rfl trivial ?_
  cases hb : onceB b with
  | false =>
    simp -implicitDefEqProofs only [qW, qZ, za, zf, zg, zh, zj, zu, kw, kA, kC, kH, List.length_nil, ↓reduceIte, Nat.reduceEqDiff, kK, kL, Bool.not_false, ↓kM, ↓kN, kO, List.append_nil, List.map_nil, Bool.false_eq_true, jX]
    refine s10 rfl rfl ?_
    simp -implicitDefEqProofs only [ze, zf, zg, zi, kA, kC, kH, ↓reduceIte, List.nil_append, kQ, resP, tupV, List.reverse_cons, List.reverse_nil, wfV, Bool.and_self, and_self]
  | true =>
  have hO : OnceB b := by simpa [onceB] using hb
  simp -implicitDefEqProofs only [qV, qW, qZ, za, zf, zg, zh, zj, zu, kw, kA, kC, kH, List.length_nil, ↓reduceIte, Nat.reduceEqDiff, kK, kL, Bool.not_true, ↓kN, kO, List.append_nil, List.map_nil, Bool.false_eq_true, jX]
  refine s10 rfl rfl ?_
  simp -implicitDefEqProofs only [zg, zh, zi, kw, kA, kC, kH, ↓reduceIte, Nat.reduceEqDiff, ↓kM, kO, reduceCtorEq, List.map_cons, List.map_nil]
  refine call_is (ok33 a b (by omega) (by omega)) (by simp [als, lendsOk, lendOk, lends, lend, wkL, wk, wkR]) rfl trivial ?_
  simp -implicitDefEqProofs only [zh, zi, kw, kA, kC, kH, ↓reduceIte, Nat.reduceEqDiff, ↓kM, kO, reduceCtorEq, List.map_cons, List.map_nil]
  refine call_is (ok35 a b (by omega) (by omega)) (by simp [als, lendsOk, lendOk, lends, lend, wkL, wk, wkR]) rfl trivial ?_
  simp -implicitDefEqProofs only [zh, kw, kA, kC, kH, ↓reduceIte, Nat.reduceEqDiff, ↓kM, kO, List.map_cons, List.map_nil]
  refine call_is (ok29 (btw a b) (rbtw a b)) (by simp [als, lendsOk, lendOk, lends, lend, wkL, wk, wkR]) rfl trivial ?_
  simp -implicitDefEqProofs only [ze, zf, zg, zi, zj, kA, kC, kH, ↓reduceIte, Nat.reduceEqDiff, kL, ↓kM, List.nil_append, kQ, resP, tupV, List.reverse_cons, List.reverse_nil, wfV, true_and, V.v.injEq, Value.int.injEq, Value.bool.injEq]
  simp [sameAl, rbtw_once hO]
theorem fn_of {f : FuncId} {xs : List V} (h : Ok f xs (Is (.b true))) : Fn Try.prog f xs [] [] (fun r _ => r = .b true) := (okN_post h fun r h' hr => hr.1).2
theorem ex_map {α β : Type} {g : α → β} : ∀ {els : List β}, (∀ x ∈ els, ∃ a, x = g a) → ∃ l : List α, els = l.map g
  | [], _ => ⟨[], rfl⟩
  | x :: r, h => by
    obtain ⟨a, rfl⟩ := h x List.mem_cons_self
    obtain ⟨l, rfl⟩ := ex_map (els := r) fun y hy => h y (List.mem_cons_of_mem _ hy)
    exact ⟨a :: l, rfl⟩
abbrev tAl : Fx.T := .st [.int .i64, .int .i64, .int .i64]
abbrev tAls : Fx.T := .sl 3 tAl
theorem wf_al {x : List V} (h : WfT tAl x) : ∃ a : Allot, x = a.enc := by
  simp only [WfT, WfTs] at h
  obtain ⟨_, _, rfl, ⟨a, rfl, _⟩, _, _, rfl, ⟨b, rfl, _⟩, _, _, rfl, ⟨c, rfl, _⟩, rfl⟩ := h
  exact ⟨⟨a, b, c⟩, rfl⟩
theorem wf_als {x : V} (h : WfV tAls x) : ∃ l, x = als l := by
  simp only [WfV] at h
  rw [WfT] at h
  obtain ⟨els, h1, _, he⟩ := h
  obtain ⟨l, rfl⟩ := ex_map (fun x hx => wf_al (he x hx))
  exact ⟨l, by simpa [als] using h1⟩
theorem fn8 : ∀ xs, WfA [tAls, tAls] xs → Fn Try.prog 8 xs [] [] (fun r _ => r = .b true) := by
  intro xs h
  obtain ⟨x1, _, rfl, h1, h⟩ := h
  obtain ⟨x2, _, rfl, h2, h⟩ := h
  obtain rfl : _ = [] := h
  obtain ⟨a, rfl⟩ := wf_als h1
  obtain ⟨b, rfl⟩ := wf_als h2
  exact fn_of (ok8 a b)
end Go.Fx.P
