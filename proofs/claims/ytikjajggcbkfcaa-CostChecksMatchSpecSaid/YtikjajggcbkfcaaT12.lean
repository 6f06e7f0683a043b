import Derived.Test.YtikjajggcbkfcaaFxRunSound
import Derived.Test.YtikjajggcbkfcaaCSan
set_option linter.unusedVariables false
set_option linter.unusedSimpArgs false
set_option linter.unusedSectionVars false
namespace Go.Fx.C
open Go Go.Fx Go.Proofs
set_option maxRecDepth 20000
theorem ok9 : Ok 9 [] (Is (.b true)) := san
theorem few_val {n most : Int} {arcs : List Arc} (h : fewB n arcs most = true) : ∃ N : Nat, n = N ∧ Val N arcs ∧ N ≤ 12 ∧ arcs.length ≤ 30 := by
  simp only [fewB, Bool.and_eq_true, decide_eq_true_eq] at h
  obtain ⟨N, rfl, hV⟩ := Val.of h.1.2.2
  exact ⟨N, rfl, hV, by omega, by omega⟩
theorem task_in {n f t am : Int} {arcs : List Arc} (h : taskB n arcs f t am = true) : (0 ≤ f ∧ f < n) ∧ (0 ≤ t ∧ t < n) ∧ f ≠ t ∧ 0 ≤ am ∧ am ≤ 2199023255552 := by
  simp only [taskB, taskP, Bool.and_eq_true, decide_eq_true_eq] at h
  exact h.2
theorem ok5 (n : Int) (arcs : List Arc) (f t am : Int) (fr : Fr) : Ok 5 [net n arcs, .i f, .i t, .i am, fr.enc] (Is (.b true)) := by
  refine ok_of lw5 (by simp) ?_
  unfold c5 net Fr.enc li
  simp -implicitDefEqProofs only [qF, qI, qO, qP, qR, qT, qV, zB, zF, zH, zI, zL, ofConst, cells?, List.length_nil, List.length_cons, List.set_cons_zero, zM, List.getD_eq_getElem?_getD, List.getElem?_cons_zero, ↓reduceIte, Nat.reduceEqDiff, Option.getD_some, List.nil_append, List.append_nil, Nat.zero_add, Nat.reduceAdd, Nat.add_zero, reduceCtorEq, freshP, List.map_cons, List.map_nil, List.drop_zero, List.take_nil, true_and, Nat.le_refl, lg0, zW, zY, zZ, ke, kf, jg, ↓jh, ↓jj, ↓jl, ↓jp, cxN, args0]
  refine call_is (ok14 n 1073741824 arcs) (by simp [net, lendsOk, lendOk, lends, lend, wkL, wk, wkR]) rfl trivial ?_
  cases hfew : fewB n arcs 1073741824 with
  | false =>
    simp -implicitDefEqProofs only [qF, qI, qJ, qO, qP, qQ, qR, qS, zc, zB, zF, zH, zI, zL, ofConst, List.length_nil, List.length_cons, ↓reduceIte, Nat.reduceEqDiff, zO, zP, Bool.not_false, ↓zQ, zS, List.append_nil, Nat.zero_add, Nat.reduceAdd, List.map_nil, Bool.false_eq_true, jg]
    refine call_is ok9 (by simp [lendsOk, lends, wkL]) rfl trivial ?_
    simp -implicitDefEqProofs only [qN, qO, qP, qR, zF, zH, zL, ↓reduceIte, List.nil_append, zU, resP, tupV, List.reverse_cons, List.reverse_nil, wfV, Bool.and_self, and_self]
  | true =>
  obtain ⟨N, rfl, hV, _⟩ := few_val hfew
  simp -implicitDefEqProofs only [qF, qI, qO, qP, qQ, qR, qV, zc, zB, zF, zH, zL, List.length_nil, List.length_cons, zM, List.getD_eq_getElem?_getD, List.getElem?_cons_zero, ↓reduceIte, Nat.reduceEqDiff, Option.getD_some, zO, Bool.not_true, ↓zR, zS, List.append_nil, Nat.zero_add, Nat.reduceAdd, reduceCtorEq, List.map_cons, List.map_nil, List.drop_zero, List.take_nil, true_and, Bool.false_eq_true, Nat.le_refl, zY, ke, jg, ↓jj, ↓jl, ↓jp]
  refine call_is (ok12 N arcs f t am) (by simp [net, lendsOk, lendOk, lends, lend, wkL, wk, wkR]) rfl trivial ?_
  cases ht : taskB N arcs f t am with
  | false =>
    simp -implicitDefEqProofs only [qF, qI, qJ, qO, qP, qQ, qR, qS, zc, zB, zF, zH, zI, zL, ofConst, List.length_nil, List.length_cons, ↓reduceIte, Nat.reduceEqDiff, zO, zP, Bool.not_false, ↓zQ, ↓zR, zS, List.append_nil, Nat.zero_add, Nat.reduceAdd, List.map_nil, Bool.false_eq_true, jg]
    refine call_is ok9 (by simp [lendsOk, lends, wkL]) rfl trivial ?_
    simp -implicitDefEqProofs only [qN, qO, qP, qR, zF, zH, zL, ↓reduceIte, List.nil_append, zU, resP, tupV, List.reverse_cons, List.reverse_nil, wfV, Bool.and_self, and_self]
  | true =>
  have hT := task_in ht
  simp -implicitDefEqProofs only [qx, qz, qC, qE, qF, qI, qJ, qO, qP, qQ, qR, qS, qV, qX, qZ, za, zc, zB, zF, zH, zI, zL, ofConst, List.length_nil, List.length_cons, zM, List.getD_eq_getElem?_getD, List.getElem?_cons_zero, ↓reduceIte, Nat.reduceEqDiff, Option.getD_some, zN, zO, zP, Bool.not_true, Bool.not_false, ↓zQ, ↓zR, zS, List.append_nil, Nat.zero_add, Nat.reduceAdd, List.map_nil, Bool.and_true, true_and, and_true, List.length_map, Bool.false_eq_true, lg0, lg1, lg2, lg3, jg, ↓jh, ↓jj, ↓jl, ↓jo, ↓jv, ↓jE, ↓qaL, List.length_map]
  simp only [br, decide_eq_true_eq, decide_eq_false_iff_not]
  have s9 : ∀ {cx : Cx} {e : Env} {h : List Blk} {b : Nat} {K : V → St → Prop}, cx.C = C0 Try.prog → cx.fx = [] → K (.b true) ⟨e, h, b⟩ → callP cx 9 [] ⟨e, h, b⟩ K := by
    intro cx e h b K hc hf hk
    exact call_is (by rw [hc]; exact ok9) (by simp [lendsOk, lends, wkL]) rfl (by rw [hf]; trivial) hk
  refine fun _ => ⟨fun _ => ?_, fun _ _ => ⟨fun _ => ?_, fun _ _ => ⟨fun _ => ?_, fun _ => ?_⟩⟩⟩
  · refine s9 rfl rfl ?_
    simp -implicitDefEqProofs only [qN, qO, qP, qR, zF, zH, zL, ↓reduceIte, List.nil_append, zU, resP, tupV, List.reverse_cons, List.reverse_nil, wfV, Bool.and_self, and_self]
  · refine s9 rfl rfl ?_
    simp -implicitDefEqProofs only [qN, qO, qP, qR, zF, zH, zL, ↓reduceIte, List.nil_append, zU, resP, tupV, List.reverse_cons, List.reverse_nil, wfV, Bool.and_self, and_self]
  · refine s9 rfl rfl ?_
    simp -implicitDefEqProofs only [qN, qO, qP, qR, zF, zH, zL, ↓reduceIte, List.nil_append, zU, resP, tupV, List.reverse_cons, List.reverse_nil, wfV, Bool.and_self, and_self]
  refine s9 rfl rfl ?_
  simp -implicitDefEqProofs only [qa, qw, rdK, qz, qA, qB, qD, qR, qV, zB, zF, zH, zL, List.length_nil, List.length_cons, zM, List.getD_eq_getElem?_getD, List.getElem?_cons_zero, ↓reduceIte, Nat.reduceEqDiff, Option.getD_some, ↓zQ, zS, Nat.zero_add, Nat.reduceAdd, reduceCtorEq, List.map_cons, List.map_nil, List.drop_zero, List.take_nil, Bool.and_true, true_and, and_true, Nat.le_refl, lg0, zY, ke, ki, ko, kv, ↓jj, ↓jl, ↓jp]
  refine call_is (ok17 N arcs f t am fr hV hT.1 hT.2.1) (by simp [Fr.enc, net, li, lendsOk, lendOk, lends, lend, wkL, wk, wkR]) rfl trivial ?_
  simp -implicitDefEqProofs only [qz, qD, zB, zF, zH, zL, ↓reduceIte, Nat.reduceEqDiff, ↓zQ, zS, List.map_cons, List.map_nil, Bool.and_true, and_true, Bool.false_eq_true]
  refine call_is (ok16 N arcs f t am fr hV hT.1) (by simp [Fr.enc, net, li, lendsOk, lendOk, lends, lend, wkL, wk, wkR]) rfl trivial ?_
  simp -implicitDefEqProofs only [qa, qb, qe, qy, qA, qB, qN, qR, qS, qZ, zF, zH, zL, ↓reduceIte, Nat.reduceEqDiff, zN, zP, ↓zQ, zS, List.nil_append, zU, resP, tupV, List.reverse_cons, List.reverse_nil, wfV, true_and, V.v.injEq, Value.int.injEq, Value.bool.injEq, ↓qaH]
  simp
end Go.Fx.C
namespace Go.Fx.C
open Go Go.Fx Go.Proofs
/-! Flows and prices, in plain words. -/
def sm (g : Nat → Int) : Nat → Int
  | 0 => 0
  | n + 1 => sm g n + g n
theorem sm_zero : ∀ n, sm (fun _ => 0) n = 0
  | 0 => rfl
  | n + 1 => by simp [sm, sm_zero n]
theorem sm_congr {g h : Nat → Int} : ∀ n, (∀ v, v < n → g v = h v) → sm g n = sm h n
  | 0, _ => rfl
  | n + 1, hh => by simp only [sm]; rw [sm_congr n fun v hv => hh v (by omega), hh n (by omega)]
theorem sm_add (g h : Nat → Int) : ∀ n, sm (fun v => g v + h v) n = sm g n + sm h n
  | 0 => rfl
  | n + 1 => by simp only [sm, sm_add g h n]; omega
theorem sm_sub (g h : Nat → Int) : ∀ n, sm (fun v => g v - h v) n = sm g n - sm h n
  | 0 => rfl
  | n + 1 => by simp only [sm, sm_sub g h n]; omega
theorem sm_le {g h : Nat → Int} : ∀ n, (∀ v, v < n → g v ≤ h v) → sm g n ≤ sm h n
  | 0, _ => Int.le_refl _
  | n + 1, hh => by
    have := sm_le n fun v hv => hh v (by omega)
    have := hh n (by omega)
    simp only [sm]; omega
/-- Only at 'a'. -/
theorem sm_one (a : Nat) (c : Int) : ∀ n, sm (fun v => if v = a then c else 0) n = if a < n then c else 0
  | 0 => by simp [sm]
  | n + 1 => by
    simp only [sm, sm_one a c n]
    by_cases h : a = n
    · subst h; simp
    · have h2 : ¬ n = a := fun e => h e.symm
      rw [if_neg h2]
      by_cases h3 : a < n
      · rw [if_pos h3, if_pos (by omega)]; omega
      · rw [if_neg h3, if_neg (by omega)]; omega
/-- Only at 'a' and 'b'. -/
theorem sm_two {g : Nat → Int} {a b : Nat} (hab : a ≠ b) {n : Nat} (ha : a < n) (hb : b < n) (h : ∀ v, v < n → v ≠ a → v ≠ b → g v = 0) : sm g n = g a + g b := by
  have : sm g n = sm (fun v => (if v = a then g a else 0) + (if v = b then g b else 0)) n := by
    refine sm_congr n fun v hv => ?_
    by_cases h1 : v = a
    · subst h1
      rw [if_pos rfl, if_neg hab]; omega
    · rw [if_neg h1]
      by_cases h2 : v = b
      · subst h2; rw [if_pos rfl]; omega
      · rw [if_neg h2, h v hv h1 h2]; rfl
  rw [this, sm_add, sm_one, sm_one, if_pos ha, if_pos hb]
abbrev gA (arcs : List Arc) (k : Nat) : Arc := arcs.getD k ⟨0,0,0,0⟩
theorem gA_at {arcs : List Arc} {k : Nat} (h : k < arcs.length) : gA arcs k = arcs[k] := by
  unfold gA
  rw [List.getD_eq_getElem?_getD, List.getElem?_eq_getElem h]; rfl
theorem Val.at {N : Nat} {arcs : List Arc} (hV : Val N arcs) {k : Nat} (hk : k < arcs.length) : (0 ≤ (gA arcs k).from_ ∧ (gA arcs k).from_ < N) ∧ (0 ≤ (gA arcs k).to ∧ (gA arcs k).to < N) ∧ (gA arcs k).from_ ≠ (gA arcs k).to ∧ (0 ≤ (gA arcs k).cap ∧ (gA arcs k).cap ≤ 1073741824) ∧ 0 ≤ (gA arcs k).cost ∧ (gA arcs k).cost ≤ 1048576 := by
  rw [gA_at hk]
  exact hV.ha arcs[k] (List.getElem_mem hk)
/-- What nodes give, weighed. -/
theorem pot {N : Nat} {arcs : List Arc} (hV : Val N arcs) (fl : List Int) (p : Nat → Int) : ∀ k, k ≤ arcs.length →
    sm (fun v => p v * valTo arcs v fl k) N = sm (fun j => fl.getD j 0 * (p (gA arcs j).from_.toNat - p (gA arcs j).to.toNat)) k
  | 0, _ => by
    simp only [valTo, Int.mul_zero]
    rw [sm_zero]; rfl
  | k + 1, hk => by
    have ih := pot hV fl p k (by omega)
    have hv := hV.at (show k < arcs.length by omega)
    have e : sm (fun v => p v * valTo arcs v fl (k + 1)) N = sm (fun v => (p v * valTo arcs v fl k + (if v = (gA arcs k).from_.toNat then p (gA arcs k).from_.toNat * fl.getD k 0 else 0)) - (if v = (gA arcs k).to.toNat then p (gA arcs k).to.toNat * fl.getD k 0 else 0)) N := by
      refine sm_congr N fun v _ => ?_
      have hs : valTo arcs v fl (k + 1) = valTo arcs v fl k + (if (gA arcs k).from_ = v then fl.getD k 0 else 0) - (if (gA arcs k).to = v then fl.getD k 0 else 0) := rfl
      rw [hs, Int.mul_sub, Int.mul_add]
      have e1 : p v * (if (gA arcs k).from_ = (v : Int) then fl.getD k 0 else 0) = if v = (gA arcs k).from_.toNat then p (gA arcs k).from_.toNat * fl.getD k 0 else 0 := by
        by_cases h : (gA arcs k).from_ = v
        · have : v = (gA arcs k).from_.toNat := by omega
          rw [if_pos h, if_pos this, ← this]
        · have : ¬ v = (gA arcs k).from_.toNat := by omega
          rw [if_neg h, if_neg this, Int.mul_zero]
      have e2 : p v * (if (gA arcs k).to = (v : Int) then fl.getD k 0 else 0) = if v = (gA arcs k).to.toNat then p (gA arcs k).to.toNat * fl.getD k 0 else 0 := by
        by_cases h : (gA arcs k).to = v
        · have : v = (gA arcs k).to.toNat := by omega
          rw [if_pos h, if_pos this, ← this]
        · have : ¬ v = (gA arcs k).to.toNat := by omega
          rw [if_neg h, if_neg this, Int.mul_zero]
      rw [e1, e2]
    rw [e, sm_sub, sm_add, sm_one, sm_one, if_pos (by omega), if_pos (by omega), ih]
    simp only [sm]
    rw [Int.mul_sub, Int.mul_comm (p _), Int.mul_comm (p _)]
    omega
/-- .. of a flow: what the first node gives, weighed by the difference. -/
theorem pot_flow {N : Nat} {arcs : List Arc} (hV : Val N arcs) {f t : Int} (hf : 0 ≤ f ∧ f < N) (ht : 0 ≤ t ∧ t < N) (hft : f ≠ t) (fl : List Int) (h0 : ∀ j : Int, 0 ≤ j → j < N → j ≠ f → j ≠ t → valTo arcs j fl arcs.length = 0) (p : Nat → Int) :
    sm (fun j => fl.getD j 0 * (p (gA arcs j).from_.toNat - p (gA arcs j).to.toNat)) arcs.length = (p f.toNat - p t.toNat) * valTo arcs f fl arcs.length := by
  have two : ∀ p : Nat → Int, sm (fun j => fl.getD j 0 * (p (gA arcs j).from_.toNat - p (gA arcs j).to.toNat)) arcs.length = p f.toNat * valTo arcs f fl arcs.length + p t.toNat * valTo arcs t fl arcs.length := by
    intro p
    rw [← pot hV fl p _ (Nat.le_refl _), sm_two (a := f.toNat) (b := t.toNat) (by omega) (by omega) (by omega)]
    · rw [Int.toNat_of_nonneg hf.1, Int.toNat_of_nonneg ht.1]
    · intro v hv h1 h2
      rw [h0 v (by omega) (by omega) (by omega) (by omega), Int.mul_zero]
  have h1 := two fun _ => 1
  simp only [Int.sub_self, Int.mul_zero, Int.one_mul] at h1
  rw [sm_zero] at h1
  rw [two p, Int.sub_mul]
  have : valTo arcs t fl arcs.length = - valTo arcs f fl arcs.length := by omega
  rw [this, Int.mul_neg]
  omega
theorem totTo_sm (arcs : List Arc) (fl : List Int) : ∀ k, totTo arcs fl k = sm (fun j => fl.getD j 0 * (gA arcs j).cost) k
  | 0 => rfl
  | k + 1 => by simp only [totTo, sm, totTo_sm arcs fl k]
theorem mul_sign {a r : Int} (h1 : r < 0 → a ≤ 0) (h2 : 0 < r → 0 ≤ a) : 0 ≤ a * r := by
  rcases Int.lt_trichotomy r 0 with h | h | h
  · have := Int.mul_nonneg (show 0 ≤ -a by have := h1 h; omega) (show 0 ≤ -r by omega)
    rwa [Int.neg_mul_neg] at this
  · subst h; simp
  · exact Int.mul_nonneg (h2 h) (by omega)
end Go.Fx.C
namespace Go.Fx.C
open Go Go.Fx Go.Proofs
/-- What prices say of a flow, arc by arc. -/
def Slack (arcs : List Arc) (x : List Int) (p : Nat → Int) : Prop :=
  ∀ k, k < arcs.length → ((gA arcs k).cost + p (gA arcs k).from_.toNat - p (gA arcs k).to.toNat < 0 → (gA arcs k).cap ≤ x.getD k 0) ∧ (0 < (gA arcs k).cost + p (gA arcs k).from_.toNat - p (gA arcs k).to.toNat → x.getD k 0 ≤ 0)
theorem OkF.at {n : Int} {arcs : List Arc} {f t : Int} {x : List Int} (h : OkF n arcs f t x) {k : Nat} (hk : k < arcs.length) : 0 ≤ x.getD k 0 ∧ x.getD k 0 ≤ (gA arcs k).cap := by
  have hl := h.hl
  have := h.hp k (by omega) hk
  rw [gA_at hk, getD_nat (by omega)]
  exact this
theorem sm_nonneg {g : Nat → Int} : ∀ n, (∀ v, v < n → 0 ≤ g v) → 0 ≤ sm g n
  | 0, _ => Int.le_refl _
  | n + 1, hh => by
    have := sm_nonneg n fun v hv => hh v (by omega)
    have := hh n (by omega)
    simp only [sm]; omega
/-- Two flows: the difference of their costs, less what the prices of the ends say, is not negative. -/
theorem cheaper {N : Nat} {arcs : List Arc} (hV : Val N arcs) {f t : Int} (hf : 0 ≤ f ∧ f < N) (ht : 0 ≤ t ∧ t < N) (hft : f ≠ t) {x g : List Int} (hx : OkF N arcs f t x) (hg : OkF N arcs f t g) {p : Nat → Int} (hs : Slack arcs x p) :
    (p t.toNat - p f.toNat) * (valTo arcs f g arcs.length - valTo arcs f x arcs.length) ≤ totTo arcs g arcs.length - totTo arcs x arcs.length := by
  have h1 := pot_flow hV hf ht hft x hx.hz p
  have h2 := pot_flow hV hf ht hft g hg.hz p
  have h3 : 0 ≤ sm (fun j => (g.getD j 0 - x.getD j 0) * ((gA arcs j).cost + p (gA arcs j).from_.toNat - p (gA arcs j).to.toNat)) arcs.length := by
    refine sm_nonneg _ fun k hk => mul_sign (fun h => ?_) (fun h => ?_)
    · have := (hs k hk).1 h
      have := hg.at hk
      omega
    · have := (hs k hk).2 h
      have := hg.at hk
      omega
  have h4 : sm (fun j => (g.getD j 0 - x.getD j 0) * ((gA arcs j).cost + p (gA arcs j).from_.toNat - p (gA arcs j).to.toNat)) arcs.length
      = (totTo arcs g arcs.length - totTo arcs x arcs.length) + ((p f.toNat - p t.toNat) * valTo arcs f g arcs.length - (p f.toNat - p t.toNat) * valTo arcs f x arcs.length) := by
    rw [totTo_sm, totTo_sm, ← h1, ← h2, ← sm_sub, ← sm_sub, ← sm_add]
    refine sm_congr _ fun k _ => ?_
    generalize g.getD k 0 = a
    generalize x.getD k 0 = b
    generalize p (gA arcs k).from_.toNat = c
    generalize p (gA arcs k).to.toNat = d
    generalize (gA arcs k).cost = e
    rw [show e + c - d = e + (c - d) by omega, Int.mul_add, Int.sub_mul, Int.sub_mul]
  rw [h4] at h3
  rw [show p t.toNat - p f.toNat = -(p f.toNat - p t.toNat) by omega, Int.neg_mul, Int.mul_sub]
  omega
/-- No flow has more than one with a cut. -/
theorem cut_most {N : Nat} {arcs : List Arc} (hV : Val N arcs) {f t : Int} (hf : 0 ≤ f ∧ f < N) (ht : 0 ≤ t ∧ t < N) (hft : f ≠ t) {x g : List Int} (hx : OkF N arcs f t x) (hg : OkF N arcs f t g) (c : Nat → Bool) (cf : c f.toNat = true) (ct : c t.toNat = false)
    (hc : ∀ k, k < arcs.length → (c (gA arcs k).from_.toNat = true → c (gA arcs k).to.toNat = false → x.getD k 0 = (gA arcs k).cap) ∧ (c (gA arcs k).to.toNat = true → c (gA arcs k).from_.toNat = false → x.getD k 0 = 0)) :
    valTo arcs f g arcs.length ≤ valTo arcs f x arcs.length := by
  have h1 := pot_flow hV hf ht hft x hx.hz fun v => if c v = true then 1 else 0
  have h2 := pot_flow hV hf ht hft g hg.hz fun v => if c v = true then 1 else 0
  have e : ((if c f.toNat = true then (1 : Int) else 0) - (if c t.toNat = true then 1 else 0)) = 1 := by rw [cf, ct]; rfl
  simp only [e, Int.one_mul] at h1 h2
  rw [← h1, ← h2]
  refine sm_le _ fun k hk => ?_
  have h3 := hc k hk
  have h4 := hx.at hk
  have h5 := hg.at hk
  generalize c (gA arcs k).from_.toNat = a at *
  generalize c (gA arcs k).to.toNat = b at *
  generalize g.getD k 0 = u at *
  generalize x.getD k 0 = w at *
  cases a <;> cases b <;> simp at * <;> omega
theorem OkP.slack {N : Nat} {arcs : List Arc} {f : Int} {x price : List Int} (h : OkP N arcs f x price) : Slack arcs x fun v => price.getD v 0 := by
  intro k hk
  rw [gA_at hk]
  exact h.ha k hk
theorem OkC.cut {N : Nat} {arcs : List Arc} (hV : Val N arcs) {f t : Int} (hf : 0 ≤ f ∧ f < N) (ht : 0 ≤ t ∧ t < N) {x cut : List Int} (h : OkC N arcs f t x cut) : ∀ k, k < arcs.length → (hasB cut ((gA arcs k).from_.toNat : Int) = true → hasB cut ((gA arcs k).to.toNat : Int) = false → x.getD k 0 = (gA arcs k).cap) ∧ (hasB cut ((gA arcs k).to.toNat : Int) = true → hasB cut ((gA arcs k).from_.toNat : Int) = false → x.getD k 0 = 0) := by
  intro k hk
  have hv := hV.at hk
  have := h.ha.h k hk hk
  rw [Int.toNat_of_nonneg hv.1.1, Int.toNat_of_nonneg hv.2.1.1, gA_at hk]
  exact this
end Go.Fx.C
namespace Go.Fx.C
open Go Go.Fx Go.Proofs
set_option maxRecDepth 20000
theorem call9 {cx : Cx} {e : Env} {h : List Blk} {b : Nat} {K : V → St → Prop} (hc : cx.C = C0 Try.prog) (hf : cx.fx = []) (hk : K (.b true) ⟨e, h, b⟩) : callP cx 9 [] ⟨e, h, b⟩ K :=
  call_is (by rw [hc]; exact ok9) (by simp [lendsOk, lends, wkL]) rfl (by rw [hf]; trivial) hk
theorem ok7 (n : Int) (arcs : List Arc) (f t am : Int) (fr : Fr) (g : List Int) : Ok 7 [net n arcs, .i f, .i t, .i am, fr.enc, li g] (Is (.b true)) := by
  refine ok_of lw7 (by simp) ?_
  unfold c7 net Fr.enc li
  simp -implicitDefEqProofs only [qF, qI, qO, qP, qR, qT, qV, zB, zF, zH, zI, zL, ofConst, cells?, List.length_nil, List.length_cons, List.set_cons_zero, zM, List.getD_eq_getElem?_getD, List.getElem?_cons_zero, ↓reduceIte, Nat.reduceEqDiff, Option.getD_some, List.nil_append, List.append_nil, Nat.zero_add, Nat.reduceAdd, Nat.add_zero, reduceCtorEq, freshP, List.map_cons, List.map_nil, List.drop_zero, List.take_nil, true_and, Nat.le_refl, lg0, zW, zY, zZ, ke, kf, jg, ↓jh, ↓jj, ↓jl, ↓jp, cxN, args0]
  refine call_is (ok14 n 1073741824 arcs) (by simp [net, lendsOk, lendOk, lends, lend, wkL, wk, wkR]) rfl trivial ?_
  cases hfew : fewB n arcs 1073741824 with
  | false =>
    simp -implicitDefEqProofs only [qF, qI, qJ, qO, qP, qQ, qR, qS, zc, zB, zF, zH, zI, zL, ofConst, List.length_nil, List.length_cons, ↓reduceIte, Nat.reduceEqDiff, zO, zP, Bool.not_false, ↓zQ, zS, List.append_nil, Nat.zero_add, Nat.reduceAdd, List.map_nil, Bool.false_eq_true, jg]
    refine call9 rfl rfl ?_
    simp -implicitDefEqProofs only [qN, qO, qP, qR, zF, zH, zL, ↓reduceIte, List.nil_append, zU, resP, tupV, List.reverse_cons, List.reverse_nil, wfV, Bool.and_self, and_self]
  | true =>
  obtain ⟨N, rfl, hV, _, hL⟩ := few_val hfew
  simp -implicitDefEqProofs only [qF, qI, qO, qP, qQ, qR, qV, zc, zB, zF, zH, zL, List.length_nil, List.length_cons, zM, List.getD_eq_getElem?_getD, List.getElem?_cons_zero, ↓reduceIte, Nat.reduceEqDiff, Option.getD_some, zO, Bool.not_true, ↓zR, zS, List.append_nil, Nat.zero_add, Nat.reduceAdd, reduceCtorEq, List.map_cons, List.map_nil, List.drop_zero, List.take_nil, true_and, Bool.false_eq_true, Nat.le_refl, zY, ke, jg, ↓jj, ↓jl, ↓jp]
  refine call_is (ok12 N arcs f t am) (by simp [net, lendsOk, lendOk, lends, lend, wkL, wk, wkR]) rfl trivial ?_
  cases ht : taskB N arcs f t am with
  | false =>
    simp -implicitDefEqProofs only [qF, qI, qJ, qO, qP, qQ, qR, qS, zc, zB, zF, zH, zI, zL, ofConst, List.length_nil, List.length_cons, ↓reduceIte, Nat.reduceEqDiff, zO, zP, Bool.not_false, ↓zQ, ↓zR, zS, List.append_nil, Nat.zero_add, Nat.reduceAdd, List.map_nil, Bool.false_eq_true, jg]
    refine call9 rfl rfl ?_
    simp -implicitDefEqProofs only [qN, qO, qP, qR, zF, zH, zL, ↓reduceIte, List.nil_append, zU, resP, tupV, List.reverse_cons, List.reverse_nil, wfV, Bool.and_self, and_self]
  | true =>
  obtain ⟨hf, ht, hft, ham⟩ := task_in ht
  simp -implicitDefEqProofs only [qP, qQ, qR, qS, qV, zc, zB, zF, zH, zL, List.length_nil, List.length_cons, zM, List.getD_eq_getElem?_getD, List.getElem?_cons_zero, ↓reduceIte, Nat.reduceEqDiff, Option.getD_some, zO, zP, Bool.not_true, ↓zR, zS, Nat.zero_add, Nat.reduceAdd, reduceCtorEq, List.map_cons, List.map_nil, List.drop_zero, List.take_nil, true_and, Bool.false_eq_true, Nat.le_refl, zY, ke, ↓jj, ↓jl, ↓jp]
  refine call_is (ok20 N arcs f t g hV) (by simp [net, li, lendsOk, lendOk, lends, lend, wkL, wk, wkR]) rfl trivial ?_
  cases hg : flB N arcs f t g with
  | false =>
    simp -implicitDefEqProofs only [qF, qI, qJ, qO, qP, qQ, qS, zc, zB, zF, zH, zL, List.length_nil, List.length_cons, ↓reduceIte, Nat.reduceEqDiff, zO, zP, Bool.not_false, ↓zQ, ↓zR, zS, List.append_nil, Nat.zero_add, Nat.reduceAdd, List.map_nil, Bool.false_eq_true, jg]
    refine call9 rfl rfl ?_
    simp -implicitDefEqProofs only [qN, qO, qP, qR, zF, zH, zL, ↓reduceIte, List.nil_append, zU, resP, tupV, List.reverse_cons, List.reverse_nil, wfV, Bool.and_self, and_self]
  | true =>
  have hg : OkF N arcs f t g := by
    apply Classical.byContradiction
    intro h
    have := flB_f h; rw [hg] at this; cases this
  have hgb := hV.flow hg.hl hg.hp
  simp -implicitDefEqProofs only [qE, qF, qI, qJ, qO, qP, qQ, qR, qS, qV, zc, zB, zF, zH, zL, List.length_nil, List.length_cons, zM, List.getD_eq_getElem?_getD, List.getElem?_cons_zero, ↓reduceIte, Nat.reduceEqDiff, Option.getD_some, zO, zP, Bool.not_true, ↓zR, zS, List.append_nil, Nat.zero_add, Nat.reduceAdd, reduceCtorEq, List.map_cons, List.map_nil, List.drop_zero, List.take_nil, true_and, Bool.false_eq_true, Nat.le_refl, lg0, zY, ke, ki, ko, kv, jg, ↓jj, ↓jl, ↓jp]
  refine call_is (ok17 N arcs f t am fr hV hf ht) (by simp [Fr.enc, net, li, lendsOk, lendOk, lends, lend, wkL, wk, wkR]) rfl trivial ?_
  simp -implicitDefEqProofs only [qE, qF, qI, qJ, qO, qP, qR, qV, qZ, zB, zF, zH, zI, zL, ofConst, List.length_nil, List.length_cons, zM, List.getD_eq_getElem?_getD, List.getElem?_cons_zero, ↓reduceIte, Nat.reduceEqDiff, Option.getD_some, zN, zP, List.append_nil, Nat.zero_add, Nat.reduceAdd, reduceCtorEq, List.map_cons, List.map_nil, List.drop_zero, List.take_nil, true_and, Nat.le_refl, zY, ke, jg, ↓jj, ↓jl, ↓jp, ↓qaI]
  simp only [br, bne_iff_ne, bne_eq_false_iff_eq]
  refine ⟨fun _ => ?_, fun hacc => ?_⟩
  · refine call9 rfl rfl ?_
    simp -implicitDefEqProofs only [qN, qO, qP, qR, zF, zH, zL, ↓reduceIte, List.nil_append, zU, resP, tupV, List.reverse_cons, List.reverse_nil, wfV, Bool.and_self, and_self]
  have hO : OkAc N arcs f t am fr := by
    apply Classical.byContradiction
    intro h
    have := accI_f h; omega
  refine call_is (ok21 N f arcs g hg.hl (by omega) hgb) (by simp [net, li, lendsOk, lendOk, lends, lend, wkL, wk, wkR]) rfl trivial ?_
  simp -implicitDefEqProofs only [qa, qb, qc, qe, qw, rdK, qx, qy, qz, qA, qB, qD, qE, qF, qI, qJ, qO, qP, qR, qS, qV, qX, qZ, zB, zF, zH, zI, zL, ofConst, List.length_nil, List.length_cons, zM, List.getD_eq_getElem?_getD, List.getElem?_cons_zero, ↓reduceIte, Nat.reduceEqDiff, Option.getD_some, zN, zP, Bool.not_true, ↓zQ, ↓zR, zS, List.append_nil, Nat.zero_add, Nat.reduceAdd, Nat.add_zero, reduceCtorEq, List.map_cons, List.map_nil, List.drop_zero, List.take_nil, Bool.and_true, true_and, and_true, Nat.le_refl, lg0, zY, ke, jg, ↓jh, ↓jj, ↓jl, ↓jo, ↓jp, ↓jv, ↓qaH]
  have hch := cheaper hV hf ht hft hO.fl hg hO.hp.slack
  have hle : valTo arcs f g arcs.length = fr.sent → fr.cost ≤ totTo arcs g arcs.length := by
    intro h
    rw [h, hO.hv, Int.sub_self, Int.mul_zero, hO.ht] at hch
    omega
  have hcm : fr.sent ≠ am → valTo arcs f g arcs.length ≤ fr.sent := by
    intro h
    have hc := hO.hc
    rw [if_neg h] at hc
    have := cut_most hV hf ht hft hO.fl hg (fun v => hasB fr.cut v) (by rw [Int.toNat_of_nonneg hf.1]; exact hc.hf) (by rw [Int.toNat_of_nonneg ht.1]; exact hc.ht) (hc.cut hV hf ht)
    rw [hO.hv] at this
    exact this
  simp only [br, beq_iff_eq, beq_eq_false_iff_ne]
  refine ⟨fun h1 => ?_, fun h1 => ?_⟩
  · refine call_is (ok22 N arcs g hg.hl (by omega) hgb fun a ha => (hV.ha a ha).2.2.2.2) (by simp [net, li, lendsOk, lendOk, lends, lend, wkL, wk, wkR]) rfl trivial ?_
    simp -implicitDefEqProofs only [qb, qe, qy, qA, qB, qE, qF, qI, qJ, qN, qO, qP, qR, qS, qZ, zB, zF, zH, zI, zL, ofConst, List.length_nil, List.length_cons, ↓reduceIte, Nat.reduceEqDiff, zN, zP, ↓zQ, zS, List.nil_append, List.append_nil, Nat.zero_add, Nat.reduceAdd, zU, resP, tupV, List.reverse_cons, List.reverse_nil, wfV, List.map_nil, true_and, V.v.injEq, Value.int.injEq, Value.bool.injEq, Bool.false_eq_true, jg, ↓qaJ]
    simp only [br, decide_eq_true_eq, decide_eq_false_iff_not]
    refine ⟨fun h2 => absurd (hle h1) (by omega), fun _ => ?_⟩
    refine call9 rfl rfl ?_
    simp -implicitDefEqProofs only [qN, qO, qP, qQ, qR, qS, qV, qX, qZ, zF, zH, zI, zL, ofConst, zM, List.getD_eq_getElem?_getD, List.getElem?_cons_zero, ↓reduceIte, Nat.reduceEqDiff, Option.getD_some, zN, zP, Bool.not_false, ↓zQ, ↓zR, zS, List.nil_append, Nat.add_zero, reduceCtorEq, zU, resP, tupV, List.reverse_cons, List.reverse_nil, wfV, Bool.and_self, true_and, and_self, V.v.injEq, Value.int.injEq, Value.bool.injEq, Bool.false_eq_true, lg0, ↓jh, ↓jj, ↓jl, ↓jo, ↓jv, ↓qaH, ↓qaK]
    simp only [br, beq_iff_eq, beq_eq_false_iff_ne, decide_eq_true_eq]
    exact ⟨fun _ => trivial, fun h => hcm h⟩
  · refine call9 rfl rfl ?_
    simp -implicitDefEqProofs only [qN, qO, qP, qQ, qR, qS, qV, qX, qZ, zF, zH, zI, zL, ofConst, zM, List.getD_eq_getElem?_getD, List.getElem?_cons_zero, ↓reduceIte, Nat.reduceEqDiff, Option.getD_some, zN, zP, Bool.not_false, ↓zQ, ↓zR, zS, List.nil_append, Nat.add_zero, reduceCtorEq, zU, resP, tupV, List.reverse_cons, List.reverse_nil, wfV, Bool.and_self, true_and, and_self, V.v.injEq, Value.int.injEq, Value.bool.injEq, Bool.false_eq_true, lg0, ↓jh, ↓jj, ↓jl, ↓jo, ↓jv, ↓qaH, ↓qaK]
    simp only [br, beq_iff_eq, beq_eq_false_iff_ne, decide_eq_true_eq]
    exact ⟨fun _ => trivial, fun h => hcm h⟩
end Go.Fx.C
namespace Go.Fx.C
open Go Go.Fx Go.Proofs
set_option maxRecDepth 20000
def noFr : V := .agg [.i 0, .i 0, .nil, .nil, .nil]
theorem ok13e (n : Int) (arcs : List Arc) (f t am : Int) (hc : checkI n arcs ≠ 0) : Ok 13 [net n arcs, .i f, .i t, .i am] (Is (.tup [noFr, .i (checkI n arcs)])) := by
  refine ok_of lw13 (by simp) ?_
  unfold c13 net
  simp -implicitDefEqProofs only [qF, qI, qO, qP, qR, qT, qU, qV, zB, zF, zH, zI, zL, ofConst, cells?, List.length_nil, List.length_cons, List.set_cons_zero, zM, List.getD_eq_getElem?_getD, List.getElem?_cons_zero, ↓reduceIte, Nat.reduceEqDiff, Option.getD_some, List.nil_append, List.append_nil, Nat.zero_add, Nat.reduceAdd, Nat.add_zero, freshP, List.map_cons, List.map_nil, List.drop_zero, List.take_nil, true_and, Nat.le_refl, lg0, zW, zY, zZ, ke, kf, jg, ↓jh, ↓jj, ↓jl, ↓jp, cxN, args0]
  refine call_is (ok11 n arcs) (by simp [net, lendsOk, lendOk, lends, lend, wkL, wk, wkR]) rfl trivial ?_
  have hb : (checkI n arcs != 0) = true := by simpa using hc
  simp -implicitDefEqProofs only [qE, qF, qI, qJ, qN, qO, qP, qR, qV, qW, qZ, zj, zB, zF, zG, zH, zI, zL, ofConst, cells?, List.length_nil, List.length_cons, List.set_cons_zero, splice, zM, List.getD_eq_getElem?_getD, List.getElem?_cons_zero, ↓reduceIte, Nat.reduceEqDiff, Option.getD_some, zN, zP, ↓zQ, List.nil_append, List.cons_append, List.append_nil, Nat.zero_add, Nat.reduceAdd, Nat.add_zero, reduceCtorEq, buildP, zU, resP, tupV, List.reverse_cons, List.reverse_nil, wfV, wfL, List.map_cons, List.map_nil, List.drop_zero, List.take_zero, List.take_nil, List.drop_nil, List.all_cons, List.all_nil, isC, Bool.and_true, Bool.and_self, true_and, and_true, and_self, List.not_mem_nil, List.length_append, not_false_eq_true, Nat.le_refl, lg0, zW, zX, zY, kc, ke, kh, ki, kn, ko, kr, kv, jg, ↓jh, ↓jj, ↓jl, ↓jp, ↓jq, ↓jr, ↓qaI, hb]
  rfl
theorem ok13t (n : Int) (arcs : List Arc) (f t am : Int) (hc : checkI n arcs = 0) (ht : taskP n f t am = false) : Ok 13 [net n arcs, .i f, .i t, .i am] (Is (.tup [noFr, .i 1])) := by
  refine ok_of lw13 (by simp) ?_
  unfold c13 net
  simp -implicitDefEqProofs only [qF, qI, qO, qP, qR, qT, qU, qV, zB, zF, zH, zI, zL, ofConst, cells?, List.length_nil, List.length_cons, List.set_cons_zero, zM, List.getD_eq_getElem?_getD, List.getElem?_cons_zero, ↓reduceIte, Nat.reduceEqDiff, Option.getD_some, List.nil_append, List.append_nil, Nat.zero_add, Nat.reduceAdd, Nat.add_zero, freshP, List.map_cons, List.map_nil, List.drop_zero, List.take_nil, true_and, Nat.le_refl, lg0, zW, zY, zZ, ke, kf, jg, ↓jh, ↓jj, ↓jl, ↓jp, cxN, args0]
  refine call_is (ok11 n arcs) (by simp [net, lendsOk, lendOk, lends, lend, wkL, wk, wkR]) rfl trivial ?_
  simp -implicitDefEqProofs only [qE, qF, qI, qJ, qN, qO, qP, qR, qV, qW, qZ, zj, zB, zF, zG, zH, zI, zL, ofConst, cells?, List.length_nil, List.length_cons, List.set_cons_zero, splice, zM, List.getD_eq_getElem?_getD, List.getElem?_cons_zero, ↓reduceIte, Nat.reduceEqDiff, Option.getD_some, zN, zP, ↓zR, List.nil_append, List.cons_append, List.append_nil, Nat.zero_add, Nat.reduceAdd, Nat.add_zero, reduceCtorEq, buildP, zU, resP, tupV, List.reverse_cons, List.reverse_nil, wfV, wfL, List.map_cons, List.map_nil, List.drop_zero, List.take_zero, List.take_nil, List.drop_nil, List.all_cons, List.all_nil, isC, Bool.and_true, Bool.and_self, true_and, and_true, and_self, List.not_mem_nil, List.length_append, not_false_eq_true, Nat.le_refl, lg0, zW, zX, zY, kc, ke, kh, ki, kn, ko, kr, kv, jg, ↓jh, ↓jj, ↓jl, ↓jp, ↓jq, ↓jr, ↓qaI, hc, bne_self_eq_false]
  refine call_is (ok26 n arcs f t am) (by simp [net, lendsOk, lendOk, lends, lend, wkL, wk, wkR]) rfl trivial ?_
  simp -implicitDefEqProofs only [qF, qI, qJ, qN, qO, qP, qR, qW, zc, zj, zF, zG, zH, zI, zL, ofConst, cells?, List.length_nil, List.length_cons, List.set_cons_zero, splice, zM, List.getD_eq_getElem?_getD, List.getElem?_cons_zero, ↓reduceIte, Nat.reduceEqDiff, Option.getD_some, zO, zP, Bool.not_false, ↓zQ, List.nil_append, List.cons_append, List.append_nil, Nat.zero_add, Nat.reduceAdd, Nat.add_zero, buildP, zU, resP, tupV, List.reverse_cons, List.reverse_nil, wfV, wfL, List.map_cons, List.map_nil, List.drop_zero, List.take_zero, List.take_nil, List.drop_nil, List.all_cons, List.all_nil, isC, Bool.and_true, Bool.and_self, true_and, and_true, and_self, List.not_mem_nil, List.length_append, not_false_eq_true, Nat.le_refl, lg0, zW, zX, zY, kc, ke, kh, ki, kn, ko, kr, kv, jg, ↓jh, ↓jj, ↓jl, ↓jp, ↓jq, ↓jr, ht]
  rfl
theorem ok3 (n : Int) (arcs : List Arc) (f t am : Int) : Ok 3 [net n arcs, .i f, .i t, .i am] (Is (.b true)) := by
  refine ok_of lw3 (by simp) ?_
  unfold c3 net
  simp -implicitDefEqProofs only [qE, qF, qI, qJ, qO, qP, qQ, qR, qS, qT, qV, qX, qZ, za, zB, zF, zH, zI, zL, ofConst, cells?, List.length_nil, List.length_cons, List.set_cons_zero, zM, List.getD_eq_getElem?_getD, List.getElem?_cons_zero, ↓reduceIte, Nat.reduceEqDiff, Option.getD_some, zN, zP, Bool.not_false, ↓zQ, ↓zR, zS, List.nil_append, List.append_nil, Nat.zero_add, Nat.reduceAdd, Nat.add_zero, freshP, List.map_cons, List.map_nil, List.drop_zero, List.take_nil, true_and, List.length_map, Bool.false_eq_true, Nat.le_refl, lg0, zY, zZ, ke, jg, ↓jh, ↓jj, ↓jl, ↓jo, ↓jp, ↓jv, ↓jE, ↓qaL, List.length_map, cxN, args0]
  simp only [br, decide_eq_true_eq, decide_eq_false_iff_not]
  refine ⟨fun _ => ?_, fun _ _ => ⟨fun _ => ?_, fun _ => ?_⟩⟩
  · refine call9 rfl rfl ?_
    simp -implicitDefEqProofs only [qN, qO, qP, qR, zF, zH, zL, ↓reduceIte, List.nil_append, zU, resP, tupV, List.reverse_cons, List.reverse_nil, wfV, Bool.and_self, and_self]
  · refine call9 rfl rfl ?_
    simp -implicitDefEqProofs only [qN, qO, qP, qR, zF, zH, zL, ↓reduceIte, List.nil_append, zU, resP, tupV, List.reverse_cons, List.reverse_nil, wfV, Bool.and_self, and_self]
  refine call_is (ok10 n arcs) (by simp [net, lendsOk, lendOk, lends, lend, wkL, wk, wkR]) rfl trivial ?_
  simp -implicitDefEqProofs only [qF, qI, qO, qP, qR, qV, zB, zF, zH, zL, List.length_nil, List.length_cons, zM, List.getD_eq_getElem?_getD, List.getElem?_cons_zero, ↓reduceIte, Nat.reduceEqDiff, Option.getD_some, List.append_nil, Nat.zero_add, Nat.reduceAdd, List.map_cons, List.map_nil, List.drop_zero, List.take_nil, true_and, Nat.le_refl, zY, ke, jg, ↓jj, ↓jl, ↓jp]
  refine call_is (ok11 n arcs) (by simp [net, lendsOk, lendOk, lends, lend, wkL, wk, wkR]) rfl trivial ?_
  simp -implicitDefEqProofs only [qE, qF, qI, qJ, qO, qP, qQ, qR, qS, qV, qZ, zB, zF, zH, zI, zL, ofConst, List.length_nil, List.length_cons, zM, List.getD_eq_getElem?_getD, List.getElem?_cons_zero, ↓reduceIte, Nat.reduceEqDiff, Option.getD_some, zN, zP, Bool.not_true, ↓zQ, ↓zR, zS, List.nil_append, List.cons_append, List.append_nil, Nat.zero_add, Nat.reduceAdd, reduceCtorEq, List.map_cons, List.map_nil, List.drop_zero, List.take_nil, true_and, Nat.le_refl, zY, zZ, ke, jg, ↓jj, ↓jl, ↓jp, ↓qaH, ↓qaI, bne_self_eq_false]
  simp only [br, beq_iff_eq, beq_eq_false_iff_ne]
  refine ⟨fun hc => ?_, fun hc => ?_⟩
  · refine call_is (ok12 n arcs f t am) (by simp [net, lendsOk, lendOk, lends, lend, wkL, wk, wkR]) rfl trivial ?_
    cases ht : taskB n arcs f t am with
    | true =>
      simp -implicitDefEqProofs only [qF, qI, qJ, qO, qP, qS, zB, zF, zH, zL, List.length_nil, List.length_cons, ↓reduceIte, Nat.reduceEqDiff, zP, ↓zQ, List.append_nil, Nat.zero_add, List.map_nil, jg]
      refine call9 rfl rfl ?_
      simp -implicitDefEqProofs only [qN, qO, qP, qR, zF, zH, zL, ↓reduceIte, List.nil_append, zU, resP, tupV, List.reverse_cons, List.reverse_nil, wfV, Bool.and_self, and_self]
    | false =>
      have ht : taskP n f t am = false := by simpa [taskB, hc] using ht
      simp -implicitDefEqProofs only [qE, qF, qI, qJ, qO, qP, qR, qS, qV, zB, zF, zH, zL, List.length_nil, List.length_cons, zM, List.getD_eq_getElem?_getD, List.getElem?_cons_zero, ↓reduceIte, Nat.reduceEqDiff, Option.getD_some, zP, ↓zQ, ↓zR, List.nil_append, List.cons_append, Nat.zero_add, Nat.reduceAdd, reduceCtorEq, List.map_cons, List.map_nil, List.drop_zero, List.take_nil, true_and, Nat.le_refl, zY, zZ, ke, jg, ↓jj, ↓jl, ↓jp]
      refine call_is (ok13t n arcs f t am hc ht) (by simp [net, lendsOk, lendOk, lends, lend, wkL, wk, wkR]) (by simp [noFr, ren, rens]) trivial ?_
      simp -implicitDefEqProofs only [qE, qF, qI, qJ, qO, qP, qR, qU, qW, qZ, zB, zC, zF, zG, zH, zI, zL, ofConst, cells?, List.length_nil, List.length_cons, List.set_cons_zero, splice, zM, List.getD_eq_getElem?_getD, List.getElem?_cons_zero, ↓reduceIte, Nat.reduceEqDiff, Option.getD_some, zN, zP, ↓zQ, List.nil_append, List.cons_append, List.append_nil, Nat.zero_add, Nat.reduceAdd, Nat.add_zero, freshP, List.map_cons, List.map_nil, List.take_zero, List.drop_nil, List.all_cons, List.all_nil, isC, Bool.and_true, Bool.and_self, true_and, and_true, and_self, List.not_mem_nil, not_false_eq_true, Nat.le_refl, lg0, zW, zX, kc, kh, kn, kr, jg, ↓jh, ↓jq, ↓jr, ↓jJ, ↓qaH, noFr, hc, beq_self_eq_true]
      refine call9 rfl rfl ?_
      simp -implicitDefEqProofs only [qN, qO, qP, qQ, qR, qS, qV, qX, qZ, za, zF, zH, zI, zL, ofConst, zM, List.getD_eq_getElem?_getD, List.getElem?_cons_zero, ↓reduceIte, Nat.reduceEqDiff, Option.getD_some, zN, zP, Bool.not_true, ↓zQ, ↓zR, zS, List.nil_append, Nat.zero_add, Nat.add_zero, zU, resP, tupV, List.reverse_cons, List.reverse_nil, wfV, Bool.and_self, true_and, and_self, V.v.injEq, Value.int.injEq, Value.bool.injEq, Bool.false_eq_true, lg0, lg1, ↓jh, ↓jj, ↓jl, ↓jo, ↓jv, ↓jH, ↓qaH, beq_self_eq_true]
  · refine call_is (ok13e n arcs f t am hc) (by simp [net, lendsOk, lendOk, lends, lend, wkL, wk, wkR]) (by simp [noFr, ren, rens]) trivial ?_
    have hb : (checkI n arcs == 0) = false := by simpa using hc
    simp -implicitDefEqProofs only [qE, qF, qI, qJ, qO, qP, qR, qU, qW, qZ, zB, zC, zF, zG, zH, zI, zL, ofConst, cells?, List.length_nil, List.length_cons, List.set_cons_zero, splice, zM, List.getD_eq_getElem?_getD, List.getElem?_cons_zero, ↓reduceIte, Nat.reduceEqDiff, Option.getD_some, zN, zP, ↓zR, List.nil_append, List.cons_append, List.append_nil, Nat.zero_add, Nat.reduceAdd, Nat.add_zero, freshP, List.map_cons, List.map_nil, List.take_zero, List.drop_nil, List.all_cons, List.all_nil, isC, Bool.and_true, Bool.and_self, true_and, and_true, and_self, List.not_mem_nil, not_false_eq_true, Nat.le_refl, lg0, zW, zX, kc, kh, kn, kr, jg, ↓jh, ↓jq, ↓jr, ↓jJ, ↓qaH, noFr, hb]
    refine call9 rfl rfl ?_
    simp -implicitDefEqProofs only [qN, qO, qP, qQ, qR, qS, qV, qX, qZ, za, zF, zH, zI, zL, ofConst, zM, List.getD_eq_getElem?_getD, List.getElem?_cons_zero, ↓reduceIte, Nat.reduceEqDiff, Option.getD_some, zN, zP, Bool.not_true, ↓zQ, ↓zR, zS, List.nil_append, Nat.zero_add, Nat.add_zero, zU, resP, tupV, List.reverse_cons, List.reverse_nil, wfV, Bool.and_self, true_and, and_self, V.v.injEq, Value.int.injEq, Value.bool.injEq, Bool.false_eq_true, lg0, lg1, ↓jh, ↓jj, ↓jl, ↓jo, ↓jv, ↓jH, ↓qaH, beq_self_eq_true]
end Go.Fx.C
namespace Go.Fx.C
open Go Go.Fx Go.Proofs
theorem ex_map {α β : Type} {g : α → β} : ∀ {els : List β}, (∀ x ∈ els, ∃ a, x = g a) → ∃ l : List α, els = l.map g
  | [], _ => ⟨[], rfl⟩
  | x :: r, h => by
    obtain ⟨a, rfl⟩ := h x List.mem_cons_self
    obtain ⟨l, rfl⟩ := ex_map (els := r) fun y hy => h y (List.mem_cons_of_mem _ hy)
    exact ⟨a :: l, rfl⟩
abbrev tArc : Fx.T := .st [.int .i64, .int .i64, .int .i64, .int .i64]
abbrev tNet : Fx.T := .st [.int .i64, .sl 4 tArc]
abbrev tLi : Fx.T := .sl 1 (.int .i64)
abbrev tFr : Fx.T := .st [.int .i64, .int .i64, tLi, tLi, tLi]
theorem wf_arc {x : List V} (h : WfT tArc x) : ∃ a : Arc, x = a.enc := by
  simp only [WfT, WfTs] at h
  obtain ⟨_, _, rfl, ⟨a, rfl, _⟩, _, _, rfl, ⟨b, rfl, _⟩, _, _, rfl, ⟨c, rfl, _⟩, _, _, rfl, ⟨d, rfl, _⟩, rfl⟩ := h
  exact ⟨⟨a, b, c, d⟩, rfl⟩
theorem wf_net {x : V} (h : WfV tNet x) : ∃ n arcs, x = net n arcs := by
  obtain ⟨cs, h, rfl⟩ := h
  rw [WfTs.eq_2] at h
  obtain ⟨a, b, rfl, h1, h2⟩ := h
  rw [WfTs.eq_2] at h2
  obtain ⟨c, d, rfl, h3, h4⟩ := h2
  rw [WfTs.eq_1] at h4
  subst h4
  simp only [WfT] at h1
  obtain ⟨n, rfl, _⟩ := h1
  rw [WfT] at h3
  obtain ⟨els, rfl, _, he⟩ := h3
  obtain ⟨arcs, rfl⟩ := ex_map (fun x hx => wf_arc (he x hx))
  exact ⟨n, arcs, rfl⟩
theorem wf_int {x : V} (h : WfV (.int .i64) x) : ∃ n, x = .i n := by
  simp only [WfV, WfT] at h
  obtain ⟨n, h, _⟩ := h
  exact ⟨n, by simpa using h⟩
theorem wf_l {x : List V} (h : WfT tLi x) : ∃ l, x = [li l] := by
  rw [WfT] at h
  obtain ⟨els, h1, _, he⟩ := h
  obtain ⟨l, rfl⟩ := ex_map (g := encI) (fun x hx => by
    have := he x hx
    simp only [WfT] at this
    obtain ⟨n, rfl, _⟩ := this
    exact ⟨n, rfl⟩)
  exact ⟨l, by simpa [li] using h1⟩
theorem wf_li {x : V} (h : WfV tLi x) : ∃ l, x = li l := by
  simp only [WfV] at h
  obtain ⟨l, h⟩ := wf_l h
  exact ⟨l, by simpa using h⟩
theorem wf_fr {x : V} (h : WfV tFr x) : ∃ f : Fr, x = f.enc := by
  obtain ⟨cs, h, rfl⟩ := h
  rw [WfTs.eq_2] at h
  obtain ⟨a, _, rfl, h1, h⟩ := h
  rw [WfTs.eq_2] at h
  obtain ⟨b, _, rfl, h2, h⟩ := h
  rw [WfTs.eq_2] at h
  obtain ⟨c, _, rfl, h3, h⟩ := h
  rw [WfTs.eq_2] at h
  obtain ⟨d, _, rfl, h4, h⟩ := h
  rw [WfTs.eq_2] at h
  obtain ⟨e, _, rfl, h5, h⟩ := h
  rw [WfTs.eq_1] at h
  subst h
  simp only [WfT] at h1 h2
  obtain ⟨s, rfl, _⟩ := h1
  obtain ⟨k, rfl, _⟩ := h2
  obtain ⟨l1, rfl⟩ := wf_l h3
  obtain ⟨l2, rfl⟩ := wf_l h4
  obtain ⟨l3, rfl⟩ := wf_l h5
  exact ⟨⟨s, k, l1, l2, l3⟩, rfl⟩
theorem fn_of {f : FuncId} {xs : List V} (h : Ok f xs (Is (.b true))) : Fn Try.prog f xs [] [] (fun r _ => r = .b true) := (okN_post h fun r h' hr => hr.1).2
theorem fn3 : ∀ xs, WfA [tNet, .int .i64, .int .i64, .int .i64] xs → Fn Try.prog 3 xs [] [] (fun r _ => r = .b true) := by
  intro xs h
  obtain ⟨x1, _, rfl, h1, h⟩ := h
  obtain ⟨x2, _, rfl, h2, h⟩ := h
  obtain ⟨x3, _, rfl, h3, h⟩ := h
  obtain ⟨x4, _, rfl, h4, h⟩ := h
  obtain rfl : _ = [] := h
  obtain ⟨n, arcs, rfl⟩ := wf_net h1
  obtain ⟨f, rfl⟩ := wf_int h2
  obtain ⟨t, rfl⟩ := wf_int h3
  obtain ⟨am, rfl⟩ := wf_int h4
  exact fn_of (ok3 n arcs f t am)
theorem fn5 : ∀ xs, WfA [tNet, .int .i64, .int .i64, .int .i64, tFr] xs → Fn Try.prog 5 xs [] [] (fun r _ => r = .b true) := by
  intro xs h
  obtain ⟨x1, _, rfl, h1, h⟩ := h
  obtain ⟨x2, _, rfl, h2, h⟩ := h
  obtain ⟨x3, _, rfl, h3, h⟩ := h
  obtain ⟨x4, _, rfl, h4, h⟩ := h
  obtain ⟨x5, _, rfl, h5, h⟩ := h
  obtain rfl : _ = [] := h
  obtain ⟨n, arcs, rfl⟩ := wf_net h1
  obtain ⟨f, rfl⟩ := wf_int h2
  obtain ⟨t, rfl⟩ := wf_int h3
  obtain ⟨am, rfl⟩ := wf_int h4
  obtain ⟨fr, rfl⟩ := wf_fr h5
  exact fn_of (ok5 n arcs f t am fr)
theorem fn7 : ∀ xs, WfA [tNet, .int .i64, .int .i64, .int .i64, tFr, tLi] xs → Fn Try.prog 7 xs [] [] (fun r _ => r = .b true) := by
  intro xs h
  obtain ⟨x1, _, rfl, h1, h⟩ := h
  obtain ⟨x2, _, rfl, h2, h⟩ := h
  obtain ⟨x3, _, rfl, h3, h⟩ := h
  obtain ⟨x4, _, rfl, h4, h⟩ := h
  obtain ⟨x5, _, rfl, h5, h⟩ := h
  obtain ⟨x6, _, rfl, h6, h⟩ := h
  obtain rfl : _ = [] := h
  obtain ⟨n, arcs, rfl⟩ := wf_net h1
  obtain ⟨f, rfl⟩ := wf_int h2
  obtain ⟨t, rfl⟩ := wf_int h3
  obtain ⟨am, rfl⟩ := wf_int h4
  obtain ⟨fr, rfl⟩ := wf_fr h5
  obtain ⟨g, rfl⟩ := wf_li h6
  exact fn_of (ok7 n arcs f t am fr g)
end Go.Fx.C
