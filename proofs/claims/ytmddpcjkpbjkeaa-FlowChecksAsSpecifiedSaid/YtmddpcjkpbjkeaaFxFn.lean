import Derived.Test.YtmddpcjkpbjkeaaFxTop
set_option linter.unusedVariables false
set_option linter.unusedSimpArgs false
set_option linter.unusedSectionVars false
namespace Go.Fx
open Go.RowKit

def rlRes1 (P : Program) : ResultVar → Option LRes
  | .tmp t => some (.tmp t)
  | .cell a t => match P.info? t, P.underlying t with
    | some i, some d => some (.cell a (if d.isRow then some i.size else none))
    | _, _ => none

def rlRes (P : Program) : List ResultVar → Option (List LRes)
  | [] => some []
  | r :: rs => match rlRes1 P r, rlRes P rs with
    | some x, some xs => some (x :: xs)
    | _, _ => none

def resRun (tmps : Array Value) : ResultVar → Sem Value
  | .tmp t => pure (tmps.getD t undef)
  | .cell a t => do loadVar t (← asAddr (tmps.getD a undef))

def tupU : List Value → Value
  | [u] => u
  | us => .tuple us.toArray

section
variable {P : Program} {ρ : Nat → Loc} {X : Nat → Prop} {w : World}

def ResL (P : Program) (w : World) (tmps : Array Value) : List ResultVar → List Value → Prop
  | [], [] => True
  | r :: rs, u :: us => (resRun tmps r).run P w = .ok u w ∧ ResL P w tmps rs us
  | _, _ => False

theorem results_run {fn : Func} {tmps : Array Value} {us : List Value} (hn : fn.results.toList.length ≤ 4) (h : ResL P w tmps fn.results.toList us) :
    (results fn tmps).run P w = .ok (tupU us) w := by
  have hr : fn.results = fn.results.toList.toArray := by simp
  have hres : results fn tmps = (do
      let vs ← fn.results.toList.toArray.mapM (resRun tmps)
      pure (if h : vs.size = 1 then vs[0] else .tuple vs)) := by
    unfold results
    rw [← hr]
    congr 1
  rw [hres]
  generalize fn.results.toList = l at h hn
  match l, us, h, hn with
  | [], [], _, _ => simp [tupU]
  | [a], [u], ⟨h1, _⟩, _ => simp [h1, tupU]
  | [a, b], [u, v], ⟨h1, h2, _⟩, _ => simp [h1, h2, tupU]
  | [a, b, c], [u, v, x], ⟨h1, h2, h3, _⟩, _ => simp [h1, h2, h3, tupU]
  | [a, b, c, d], [u, v, x, y], ⟨h1, h2, h3, h4, _⟩, _ => simp [h1, h2, h3, h4, tupU]
  | _ :: _ :: _ :: _ :: _ :: _, _, _, hn => simp at hn
  | [], _ :: _, h, _ => exact h.elim
  | [_], [], h, _ => exact h.elim
  | [_], _ :: _ :: _, h, _ => exact h.2.elim
  | [_, _], [], h, _ => exact h.elim
  | [_, _], [_], h, _ => exact h.2.elim
  | [_, _], _ :: _ :: _ :: _, h, _ => exact h.2.2.elim
  | [_, _, _], [], h, _ => exact h.elim
  | [_, _, _], [_], h, _ => exact h.2.elim
  | [_, _, _], [_, _], h, _ => exact h.2.2.elim
  | [_, _, _], _ :: _ :: _ :: _ :: _, h, _ => exact h.2.2.2.elim
  | [_, _, _, _], [], h, _ => exact h.elim
  | [_, _, _, _], [_], h, _ => exact h.2.elim
  | [_, _, _, _], [_, _], h, _ => exact h.2.2.elim
  | [_, _, _, _], [_, _, _], h, _ => exact h.2.2.2.elim
  | [_, _, _, _], _ :: _ :: _ :: _ :: _ :: _, h, _ => exact h.2.2.2.2.elim

theorem resP_run {h : List Blk} {e : Env} {tmps : Array Value} (hr : Rep ρ X w h) (he : RepE ρ X w e tmps) {K : List V → Prop} :
    ∀ (rs : List ResultVar) (ls : List LRes) (acc : List V) (us : List Value), rlRes P rs = some ls → RepL ρ X w acc us → resP h e ls acc K →
      ∃ xs vs, K (acc.reverse ++ xs) ∧ RepL ρ X w xs vs ∧ ResL P w tmps rs vs
  | [], ls, acc, us, hm, ha, hk => by
    simp only [rlRes, Option.some.injEq] at hm
    subst hm
    exact ⟨[], [], by simpa [resP] using hk, trivial, trivial⟩
  | r :: rs, ls, acc, us, hm, ha, hk => by
    simp only [rlRes] at hm
    split at hm
    · rename_i x xs hx hxs
      simp only [Option.some.injEq] at hm
      subst hm
      cases r with
      | tmp t =>
        simp only [rlRes1, Option.some.injEq] at hx
        subst hx
        obtain ⟨ys, vs, h1, h2, h3⟩ := resP_run hr he rs xs (get e t :: acc) (tmps.getD t undef :: us) hxs ⟨he t, ha⟩ hk
        exact ⟨get e t :: ys, tmps.getD t undef :: vs, by simpa using h1, ⟨he t, h2⟩, rfl, h3⟩
      | cell a t =>
        simp only [rlRes1] at hx
        split at hx
        · rename_i inf d hi hu
          simp only [Option.some.injEq] at hx
          subst hx
          simp only [resP] at hk
          obtain ⟨y, val, h1, h2, h3⟩ := load_run hr hi hu rfl (he a) hk
          obtain ⟨ys, vs, h4, h5, h6⟩ := resP_run hr he rs xs (y :: acc) (val :: us) hxs ⟨h2, ha⟩ h1
          refine ⟨y :: ys, val :: vs, by simpa using h4, ⟨h2, h5⟩, ?_, h6⟩
          have h7 := h3 w (Ext.refl w)
          have hp := he a
          have hptr : ∃ ad, tmps.getD a undef = .pointer (some ad) := by
            revert hk
            unfold loadP
            split
            · rename_i k i f hv; intro _; rw [hv] at hp; exact ⟨_, hp.2⟩
            · rename_i sz els i f hv; intro _; rw [hv] at hp; obtain ⟨b, off, h8, _⟩ := hp; exact ⟨_, h8⟩
            · intro hk; exact hk.elim
          obtain ⟨ad, had⟩ := hptr
          rw [had] at h7
          simp only [resRun, had, asAddr, Sem.run_bind, Sem.run_pure, Result.andThen_ok]
          simpa [Instr.loadAt, Instr.sureAddr] using h7
        · cases hx
    · cases hm

theorem tup_rep {xs : List V} {us : List Value} (h : RepL ρ X w xs us) : RepV ρ X w (tupV xs) (tupU us) := by
  match xs, us, h with
  | [], [], _ => exact ⟨#[], rfl, trivial⟩
  | [x], [u], h => exact h.1
  | x :: y :: r, u :: v :: s, h => exact ⟨(u :: v :: s).toArray, rfl, h⟩
  | [_], _ :: _ :: _, h => exact h.2.elim
  | _ :: _ :: _, [_], h => exact h.2.elim
  | [], _ :: _, h => exact h.elim
  | _ :: _, [], h => exact h.elim

theorem args0_get : ∀ (i : Nat) (xs : List V) (j : Nat), get (args0 i xs) j = if i ≤ j then (xs[j - i]?).getD .any else .any
  | i, [], j => by simp [args0, get]
  | i, x :: r, j => by
    simp only [args0, get]
    by_cases h : j = i
    · subst h; simp
    · rw [if_neg h, args0_get (i + 1) r j]
      by_cases h2 : i + 1 ≤ j
      · rw [if_pos h2, if_pos (by omega)]
        rw [show j - i = (j - (i + 1)) + 1 by omega]
        simp
      · rw [if_neg h2, if_neg (by omega)]

theorem args0_rep {xs : List V} {vals : List Value} (h : RepL ρ X w xs vals) (n : Nat) : RepE ρ X w (args0 0 xs) (vals.toArray ++ Array.replicate n undef) := by
  intro i
  rw [args0_get]
  simp only [Nat.zero_le, if_true, Nat.sub_zero]
  cases hx : xs[i]? with
  | none => trivial
  | some x =>
    obtain ⟨v, h1, h2⟩ := RepL_get h hx
    have hi : i < vals.length := (List.getElem?_eq_some_iff.1 h1).1
    have : (vals.toArray ++ Array.replicate n undef).getD i undef = v := by
      rw [Array.getD_eq_getD_getElem?, Array.getElem?_append_left (by simpa using hi)]
      simp [h1]
    rw [this]
    exact h2

/-- FROM THE EXECUTOR TO A CONTRACT. -/
theorem Fn_of (hP : P.follows .mixedOrders = true) {cx : Cx} (hcx : cx.ok P) {f : FuncId} {fn : Func} {c : Code} {l0 l : LCode} {rs : List LRes} (hf : P.funcs[f]? = some fn) (hb : fn.body = some c)
    (hm : rlC P fn.ntmps c l0 = some l) (hres : rlRes P fn.results.toList = some rs) (h4 : fn.results.toList.length ≤ 4) {args : List V} {h0 : List Blk} {mv : List Nat} {R : V → List Blk → Prop}
    (hlen : args.length ≤ fn.ntmps) (hfx : keepP cx.fx h0) (hmv : ∀ k, k < h0.length → k ∉ mv → k ∈ cx.fx)
    (h : aw cx l (retP cx.fx h0.length rs R) (fun _ _ => False) (retP cx.fx h0.length rs R) ⟨args0 0 args, h0, 0⟩) : Fn P f args h0 mv R := by
  intro ρ X w vals hr ha
  have hvl := RepL_len ha
  refine calls_of_wp hf hb ?_
  have hg : Good ρ X w cx.fx fn.ntmps ⟨args0 0 args, h0, 0⟩ { tmps := vals.toArray ++ Array.replicate (fn.ntmps - vals.toArray.size) undef, defers := [] } w :=
    ⟨ρ, ⟨⟨Fr.refl _ _, fun _ _ => rfl⟩, hfx⟩, ⟨hr, args0_rep ha _⟩, by simp; omega, rfl⟩
  have hend : ∀ s a w', retP cx.fx h0.length rs R s → Good ρ X w cx.fx fn.ntmps s a w' → a.defers = [] ∧ ∃ v, (results fn a.tmps).run P w' = .ok v w' ∧ ∃ val r h' ρ', Ending.returned v = .returned val ∧ (R r h' ∧ h0.length ≤ h'.length) ∧ Fr ρ w ρ' w' ∧ Rep ρ' X w' h' ∧ RepV ρ' X w' r val ∧
      ∀ k, k < h0.length → k ∉ mv → ρ' k = ρ k := by
    intro s a w' hret hgood
    obtain ⟨ρ', ⟨⟨hf1, hfx1⟩, hk1⟩, ⟨hr1, he1⟩, hN1, hd1⟩ := hgood
    obtain ⟨xs, vs, h5, h6, h7⟩ := resP_run hr1 he1 fn.results.toList rs [] [] hres trivial hret
    obtain ⟨p, ⟨h8, h9, h10, h11, h12⟩, h13⟩ := h5
    refine ⟨hd1, tupU vs, results_run h4 h7, _, _, p, dropLoc ρ' p, rfl, ⟨h13, h10⟩, hf1.trans drop_fr, dropRep hr1 h8 h12, ?_, fun k hk hkm => ?_⟩
    · exact drop_rep _ _ h11 (tup_rep (by simpa using h6))
    · have hkf := hmv k hk hkm
      rw [live_loc (keepP_get h9 k hkf)]
      exact hfx1 k hkf
  exact aw_sound (P := P) (ρ0 := ρ) (X := X) (w0 := w) (fx := cx.fx) (N := fn.ntmps) hP hcx rfl c l0 l hm _ _ _ _
    (fun s a w' hret hgood => hend s a w' hret hgood) (fun _ _ _ _ hx _ => hx.elim) (fun s a w' hret hgood => hend s a w' hret hgood) _ _ _ h hg

/-- A function of the program, in the executor's code: its results' places and the number of its temporaries. -/
def rlF (P : Program) (f : FuncId) (l0 : LCode) : Option (LCode × List LRes × Nat) :=
  match P.funcs[f]? with
  | some fn => match fn.body, rlRes P fn.results.toList, decide (fn.results.toList.length ≤ 4) && !(fn.name == "runtime.NumGoroutine") with
    | some c, some rs, true => (rlC P fn.ntmps c l0).map fun l => (l, rs, fn.ntmps)
    | _, _, _ => none
  | none => none

theorem rlF_callable {P : Program} {f : FuncId} {l0 l : LCode} {rs : List LRes} {nt : Nat} (h : rlF P f l0 = some (l, rs, nt)) : Callable P f := by
  unfold rlF at h
  split at h
  · rename_i fn hf
    split at h
    · rename_i c rs' hb hr ht
      simp only [Bool.and_eq_true, Bool.not_eq_true', decide_eq_true_eq] at ht
      exact ⟨fn, hf, ht.2, by simp [hb]⟩
    · cases h
  · cases h

theorem Fn_rl {P : Program} (hP : P.follows .mixedOrders = true) {cx : Cx} (hcx : cx.ok P) {f : FuncId} {l0 l : LCode} {rs : List LRes} {nt : Nat} (hl : rlF P f l0 = some (l, rs, nt))
    {args : List V} {h0 : List Blk} {mv : List Nat} {R : V → List Blk → Prop} (hlen : args.length ≤ nt) (hfx : keepP cx.fx h0) (hmv : ∀ k, k < h0.length → k ∉ mv → k ∈ cx.fx)
    (h : aw cx l (retP cx.fx h0.length rs R) (fun _ _ => False) (retP cx.fx h0.length rs R) ⟨args0 0 args, h0, 0⟩) : Fn P f args h0 mv R := by
  unfold rlF at hl
  split at hl
  · rename_i fn hf
    split at hl
    · rename_i c rs' hb hr ht
      simp only [Bool.and_eq_true, Bool.not_eq_true', decide_eq_true_eq] at ht
      cases hm : rlC P fn.ntmps c l0 with
      | none => simp [hm] at hl
      | some l1 =>
        simp only [hm, Option.map_some, Option.some.injEq, Prod.mk.injEq] at hl
        obtain ⟨rfl, rfl, rfl⟩ := hl
        exact Fn_of hP hcx hf hb hm hr ht.1 hlen hfx hmv h
    · cases hl
  · cases hl
end
end Go.Fx
