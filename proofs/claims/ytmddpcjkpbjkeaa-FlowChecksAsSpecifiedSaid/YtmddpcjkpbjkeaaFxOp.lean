import Derived.Test.YtmddpcjkpbjkeaaFxEff
import Derived.Test.YtmddpcjkpbjkeaaFxCall
import Derived.StillTail
import Derived.Deep.LoopGhost
set_option linter.unusedVariables false
set_option linter.unusedSimpArgs false
set_option linter.unusedSectionVars false
namespace Go.Fx
open Go.RowKit

/-- Function f has a body that is entered. -/
def Callable (P : Program) (f : FuncId) : Prop := ∃ fn, P.funcs[f]? = some fn ∧ (fn.name == "runtime.NumGoroutine") = false ∧ fn.body.isNone = false

/-- The contracts at hand are true. -/
def Cx.ok (cx : Cx) (P : Program) : Prop := ∀ f as h0 mv R, cx.C f as h0 mv R → Callable P f ∧ Fn P f as h0 mv R

section
variable {ρ : Nat → Loc} {X : Nat → Prop} {w : World} {P : Program}

theorem callFunc_run {f : FuncId} (h : Callable P f) (vs : Array Value) (w : World) : (callFunc f vs).run P w = .ok (.enter f vs) w := by
  obtain ⟨fn, h1, h2, h3⟩ := h
  have h2' : ¬ fn.name = "runtime.NumGoroutine" := by simpa using h2
  have h3' : ¬ fn.body = none := by intro h; simp [h] at h3
  simp [callFunc, program, Sem.run, h1, h2', h3']

theorem call_sound {cx : Cx} (hcx : cx.ok P) {f : FuncId} {args : List V} {vals : List Value} {s : St} {t : Array Value} {K : V → St → Prop} (hr : Rep ρ X w s.h) (he : RepE ρ X w s.e t) (hfx : keepP cx.fx s.h)
    (ha : RepL ρ X w args vals) (h : callP cx f args s K) : Callable P f ∧ Calls P f vals.toArray w fun e w' => ∃ val, e = .returned val ∧ Sound cx.fx cx.bn ρ X w t K val w' := by
  obtain ⟨ι, as, mv, R, ⟨⟨hn, hlt0⟩, hmv⟩, hok, hwk, hC, hK⟩ := h
  have hlt : ∀ k ∈ ι, k < s.h.length := fun k hk => (hlt0 k hk).1
  obtain ⟨hcall, hFn⟩ := hcx _ _ _ _ _ hC
  refine ⟨hcall, ?_⟩
  have hargs := wkL_rep _ _ _ hwk (lends_rep hr (ι := ι) _ _ hok ha)
  refine (hFn _ _ w vals (callee_rep hr hn hlt) hargs).mono ?_
  rintro e w' ⟨val, r, h', ρc, rfl, ⟨hR, hl⟩, hf, hrep, hval, hstay⟩
  have hl' : ι.length ≤ h'.length := by simpa using hl
  obtain ⟨hkeep, hK'⟩ := hK r h' hR hl'
  have hat : ∀ j k, ι[j]? = some k → j ∉ mv → ρc j = ρ k := fun j k hj hm => by
    rw [hstay j (by simpa using (List.getElem?_eq_some_iff.1 hj).1) hm, callee_at hj]
  have hag : ∀ k, k ∉ mv.filterMap (ι[·]?) → (ρ k).real = true → afterLoc ρ ρc ι s.h.length k = ρ k := by
    intro k hk hreal
    cases hp : pos ι k with
    | some j =>
      simp only [afterLoc, hp]
      exact hat j k (pos_some hp) (fun hm => hk (List.mem_filterMap.2 ⟨j, hm, pos_some hp⟩))
    | none =>
      simp only [afterLoc, hp]
      by_cases hk' : k < s.h.length
      · rw [if_pos hk']
      · rw [hr.out k (by omega)] at hreal
        cases hreal
  have hfr := after_fr hr hf
  refine ⟨val, rfl, _, _, afterLoc ρ ρc ι s.h.length, hK', ⟨hkeep, fun k hk => ?_, fun k hk hreal => ?_⟩, hfr, after_rep hr hn hlt hl' hf hrep hag, RepE_kill hfr _ hag he, ren_rep (after_sta hr) (fun a c hb _ => back_loc hn hlt hb) _ _ hval⟩
  cases hp : pos ι k with
  | some j =>
    simp only [afterLoc, hp]
    exact hat j k (pos_some hp) (fun hm => hmv j hm k (pos_some hp) hk)
  | none =>
    simp only [afterLoc, hp]
    have := keepP_get hfx k hk
    have hkl : k < s.h.length := by
      unfold liveP at this
      split at this
      · exact this.elim
      · rename_i hb
        exact (List.getElem?_eq_some_iff.1 hb).1
      · exact this.elim
    rw [if_pos hkl]
  · have hnot : k ∉ ι := fun hi => (hlt0 k hi).2 hk
    refine ⟨hag k (fun hm => ?_) hreal, (hf.keep _ (hr.lt k hreal) (callee_not_own hr hnot hreal)).1⟩
    obtain ⟨j, _, hj⟩ := List.mem_filterMap.1 hm
    exact hnot (List.mem_of_getElem? hj)

theorem map_ev_rep {e : Env} {a : Act} (he : RepE ρ X w e a.tmps) : ∀ xs : List Operand, RepL ρ X w (xs.map (ev e)) (xs.map a.eval)
  | [] => trivial
  | x :: r => ⟨ev_rep he x, map_ev_rep he r⟩

theorem RepL_append : ∀ {xs ys : List V} {us vs : List Value}, RepL ρ X w xs us → RepL ρ X w ys vs → RepL ρ X w (xs ++ ys) (us ++ vs)
  | [], _, [], _, _, h => h
  | _ :: _, _, _ :: _, _, h, h' => ⟨h.1, RepL_append h.2 h'⟩
  | [], _, _ :: _, _, h, _ => h.elim
  | _ :: _, _, [], _, h, _ => h.elim

theorem rl_call_inv {op : Op} {l0 : LOp} {f : FuncId} {xs : List Operand} (hm : rl0 P op l0 = some (.call f xs)) : ∃ c, op = .call c ∧ c.callee = .value (.func f) ∧ c.args.toList = xs := by
  cases op with
  | call c =>
    refine ⟨c, rfl, ?_⟩
    simp only [rl0, rlCall] at hm
    split at hm
    · exfalso; revert hm; (repeat' split) <;> simp
    · rename_i hc
      simp only [Option.some.injEq, LOp.call.injEq] at hm
      exact ⟨by rw [hc, hm.1], hm.2⟩
    all_goals (exfalso; revert hm; (repeat' split) <;> simp)
  | _ => exfalso; simp only [rl0] at hm <;> (revert hm; (repeat' split) <;> simp [Option.map_eq_some_iff])

theorem rl_callv_inv {op : Op} {l0 : LOp} {f : Operand} {xs : List Operand} (hm : rl0 P op l0 = some (.callv f xs)) : ∃ c, op = .call c ∧ c.callee = .value f ∧ c.args.toList = xs := by
  cases op with
  | call c =>
    refine ⟨c, rfl, ?_⟩
    simp only [rl0, rlCall] at hm
    split at hm
    · exfalso; revert hm; (repeat' split) <;> simp
    · exfalso; simp at hm
    · rename_i hc
      simp only [Option.some.injEq, LOp.callv.injEq] at hm
      exact ⟨by rw [hc, hm.1], hm.2⟩
    all_goals (exfalso; revert hm; (repeat' split) <;> simp)
  | _ => exfalso; simp only [rl0] at hm <;> (revert hm; (repeat' split) <;> simp [Option.map_eq_some_iff])

/-- EVERY OPERATION of a region that draws no order. -/
theorem aOp_sound {cx : Cx} (hcx : cx.ok P) {o : Oper} {l0 l : LOp} {a : Act} {s : St} {K : V → St → Prop} {Q : Exit → Act → World → Prop} (hm : rl P o.op l0 = some l)
    (hr : Rep ρ X w s.h) (he : RepE ρ X w s.e a.tmps) (hfx : keepP cx.fx s.h) (h : aOp cx l s K) :
    o.wp P a w (fun a' w' => ∃ val, a' = a.put o.dst val ∧ Sound cx.fx cx.bn ρ X w a.tmps K val w') Q := by
  rcases rl_cases hm with rfl | hm0
  · exact h.elim
  by_cases hq : quietOp l = true
  · obtain ⟨x, val, h1, h2, h3⟩ := quiet_sound hq hm hr he h
    unfold Oper.wp
    rw [h3 w (Ext.refl w)]
    exact ⟨val, rfl, x, s, ρ, h1, ⟨hfx, fun _ _ => rfl, fun _ _ _ => ⟨rfl, rfl⟩⟩, Fr.refl _ _, hr, he, h2⟩
  · by_cases hc : ∃ f xs, l = .call f xs
    · obtain ⟨f, xs, rfl⟩ := hc
      have hop := rl_call_inv hm0
      obtain ⟨c, hop, hcal, hargs⟩ := hop
      obtain ⟨h1, h2⟩ := call_sound hcx hr he hfx (map_ev_rep he xs) h
      unfold Oper.wp execOp
      have ha : (c.args.map a.eval) = (xs.map a.eval).toArray := by apply Array.ext'; simp [hargs]
      simp only [hop, resolve, hcal, ha, Act.eval, Deferred.ofValue, Sem.run_bind, Sem.run_pure, Result.andThen_ok, invoke, Array.empty_append, Array.append_empty, callFunc_run h1]
      refine Calls.mono h2 ?_
      rintro e w' ⟨val, rfl, hs⟩
      exact ⟨val, rfl, hs⟩
    · by_cases hv : ∃ f xs, l = .callv f xs
      · obtain ⟨f, xs, rfl⟩ := hv
        have hop := rl_callv_inv hm0
        obtain ⟨c, hop, hcal, hargs⟩ := hop
        simp only [aOp] at h
        split at h
        · rename_i g cs hg
          have hf := ev_rep he f
          rw [hg] at hf
          obtain ⟨arr, hf1, hf2⟩ := hf
          obtain ⟨h1, h2⟩ := call_sound hcx hr he hfx (RepL_append (map_ev_rep he xs) hf2) h
          unfold Oper.wp execOp
          have ha : (c.args.map a.eval) = (xs.map a.eval).toArray := by apply Array.ext'; simp [hargs]
          have ha2 : (xs.map a.eval ++ arr.toList).toArray = (xs.map a.eval).toArray ++ arr := by simp
          rw [ha2] at h2
          simp only [hop, resolve, hcal, ha, hf1, Deferred.ofValue, Sem.run_bind, Sem.run_pure, Result.andThen_ok, invoke, Array.empty_append, callFunc_run h1]
          refine Calls.mono h2 ?_
          rintro e w' ⟨val, rfl, hs⟩
          exact ⟨val, rfl, hs⟩
        · exact h.elim
      · rcases aOp_eff hm0 hr he hfx h (by simpa using hq) (fun f xs e => hc ⟨f, xs, e⟩) (fun f xs e => hv ⟨f, xs, e⟩) with ⟨val, w', hrun, hs⟩ | ⟨w', hrun, hs⟩
        · unfold Oper.wp
          rw [hrun]
          exact ⟨val, rfl, hs⟩
        · unfold Oper.wp
          rw [hrun]
          exact ⟨undef, rfl, hs⟩

end
end Go.Fx
