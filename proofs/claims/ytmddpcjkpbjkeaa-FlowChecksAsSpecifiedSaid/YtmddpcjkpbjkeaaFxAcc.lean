import Derived.Test.YtmddpcjkpbjkeaaFxRep
import Derived.Deep.MidRow
set_option linter.unusedVariables false
set_option linter.unusedSimpArgs false
set_option linter.unusedSectionVars false
namespace Go.Fx
open Go.RowKit

section
variable {S : Nat → Prop} {w : World} {sz b : Nat}
theorem RepCs_get : ∀ {off : Nat} {cs : List V}, RepCs S w b off cs → ∀ {f : Nat} {x : V}, cs[f]? = some x → ∃ val, w.cell? ⟨b, off + f, none⟩ = some val ∧ RepD S w x val
  | off, y :: r, h, 0, x, hx => by
    obtain ⟨⟨val, h1, h2⟩, _⟩ := h
    simp only [List.getElem?_cons_zero, Option.some.injEq] at hx
    subst hx
    exact ⟨val, h1, h2⟩
  | off, y :: r, h, f + 1, x, hx => by
    obtain ⟨val, h1, h2⟩ := RepCs_get h.2 (f := f) (x := x) (by simpa using hx)
    exact ⟨val, by rw [show off + (f + 1) = off + 1 + f by omega]; exact h1, h2⟩
  | off, [], _, f, x, hx => by simp at hx
theorem RepCs_mk : ∀ {off : Nat} {cs : List V}, (∀ f x, cs[f]? = some x → ∃ val, w.cell? ⟨b, off + f, none⟩ = some val ∧ RepD S w x val) → RepCs S w b off cs
  | _, [], _ => trivial
  | off, x :: r, h => ⟨by simpa using h 0 x rfl, RepCs_mk fun f y hy => by rw [show off + 1 + f = off + (f + 1) by omega]; exact h (f + 1) y (by simpa using hy)⟩
theorem RepEls_get : ∀ {off : Nat} {els : List (List V)}, RepEls S w sz b off els → ∀ {i : Nat} {e : List V}, els[i]? = some e → e.length = sz ∧ RepCs S w b (off + i * sz) e
  | off, y :: r, h, 0, e, he => by
    simp only [List.getElem?_cons_zero, Option.some.injEq] at he
    subst he
    simpa using h.1
  | off, y :: r, h, i + 1, e, he => by
    have := RepEls_get h.2 (i := i) (e := e) (by simpa using he)
    rw [show off + (i + 1) * sz = off + sz + i * sz by rw [Nat.add_mul]; omega]
    exact this
  | off, [], _, i, e, he => by simp at he
theorem RepEls_mk : ∀ {off : Nat} {els : List (List V)}, (∀ i e, els[i]? = some e → e.length = sz ∧ RepCs S w b (off + i * sz) e) → RepEls S w sz b off els
  | _, [], _ => trivial
  | off, x :: r, h => ⟨by simpa using h 0 x rfl, RepEls_mk fun i e he => by
      have := h (i + 1) e (by simpa using he)
      rw [show off + (i + 1) * sz = off + sz + i * sz by rw [Nat.add_mul]; omega] at this
      exact this⟩
end

section
variable {ρ : Nat → Loc} {X : Nat → Prop} {w : World}
theorem RepL_len : ∀ {xs : List V} {vs : List Value}, RepL ρ X w xs vs → xs.length = vs.length
  | [], [], _ => rfl
  | _ :: _, _ :: _, h => by simp [RepL_len h.2]
  | [], _ :: _, h => h.elim
  | _ :: _, [], h => h.elim
theorem RepL_get : ∀ {xs : List V} {vs : List Value}, RepL ρ X w xs vs → ∀ {f : Nat} {x : V}, xs[f]? = some x → ∃ val, vs[f]? = some val ∧ RepV ρ X w x val
  | [], [], _, _, _, hx => by simp at hx
  | x :: r, u :: us, h, 0, y, hy => by
    simp only [List.getElem?_cons_zero, Option.some.injEq] at hy
    subst hy
    exact ⟨u, rfl, h.1⟩
  | x :: r, u :: us, h, f + 1, y, hy => by simpa using RepL_get h.2 (f := f) (x := y) (by simpa using hy)
  | [], _ :: _, h, _, _, _ => h.elim
  | _ :: _, [], h, _, _, _ => h.elim
theorem RepL_mk : ∀ {xs : List V} {vs : List Value}, xs.length = vs.length → (∀ (f : Nat) (x : V), xs[f]? = some x → ∃ val, vs[f]? = some val ∧ RepV ρ X w x val) → RepL ρ X w xs vs
  | [], [], _, _ => trivial
  | x :: r, u :: us, hl, h => ⟨by simpa using h 0 x rfl, RepL_mk (by simpa using hl) fun f y hy => by simpa using h (f + 1) y (by simpa using hy)⟩
  | [], _ :: _, hl, _ => by simp at hl
  | _ :: _, [], hl, _ => by simp at hl

theorem RepV_of_D {x : V} {val : Value} (h : RepD (Sta ρ X w) w x val) : RepV ρ X w x val := by
  cases x <;> first | exact h | exact h.1 | exact h.elim
theorem RepD_of_V {x : V} {val : Value} (hd : isD x = true) (h : RepV ρ X w x val) : RepD (Sta ρ X w) w x val := by
  cases x <;> first | exact h | exact ⟨h, hd⟩ | (simp [isD] at hd)

theorem RepD_one {S : Nat → Prop} {x : V} {val : Value} (h : RepD S w x val) : val.oneCell' = true := by
  cases x with
  | v y =>
    obtain ⟨rfl, hd⟩ := h
    cases val <;> simp_all [isD, Value.oneCell']
  | ro sz els =>
    obtain ⟨a, len, cap, rfl, _⟩ := h
    rfl
  | _ => exact h.elim

/-- A value that is one cell, as 'cells?' says. -/
theorem cells_rep {x : V} {val : Value} {cs : List V} (hc : cells? x = some cs) (h : RepV ρ X w x val) : RepL ρ X w cs val.cells.toList := by
  cases x with
  | any => simp [cells?] at hc
  | v y =>
    have h' : val = y := h
    subst h'
    cases val with
    | agg arr =>
      simp only [cells?, Option.some.injEq] at hc
      subst hc
      refine RepL_mk (by simp [Value.cells]) fun f x hx => ?_
      simp only [List.getElem?_map, Option.map_eq_some_iff] at hx
      obtain ⟨u, hu, rfl⟩ := hx
      exact ⟨u, hu, rfl⟩
    | tuple _ => simp [cells?] at hc
    | _ =>
      simp only [cells?, Option.some.injEq] at hc
      subst hc
      exact ⟨rfl, trivial⟩
  | ro sz els =>
    simp only [cells?, Option.some.injEq] at hc
    subst hc
    have h' := h
    obtain ⟨a, len, cap, rfl, _⟩ := h
    exact ⟨h', trivial⟩
  | bro sz els =>
    simp only [cells?, Option.some.injEq] at hc
    subst hc
    have h' := h
    obtain ⟨a, len, cap, rfl, _⟩ := h
    exact ⟨h', trivial⟩
  | full sz els =>
    simp only [cells?, Option.some.injEq] at hc
    subst hc
    have h' := h
    obtain ⟨a, len, rfl, _⟩ := h
    exact ⟨h', trivial⟩
  | sl k i n =>
    simp only [cells?, Option.some.injEq] at hc
    subst hc
    have h' := h
    obtain ⟨cap, _, _, h3⟩ := h
    rcases h3 with ⟨_, a, rfl⟩ | ⟨_, rfl, _⟩ <;> exact ⟨h', trivial⟩
  | ptr k i f =>
    simp only [cells?, Option.some.injEq] at hc
    subst hc
    have h' := h
    obtain ⟨_, rfl⟩ := h
    exact ⟨h', trivial⟩
  | rp sz els i f =>
    simp only [cells?, Option.some.injEq] at hc
    subst hc
    have h' := h
    obtain ⟨b, off, rfl, _⟩ := h
    exact ⟨h', trivial⟩
  | agg ds =>
    simp only [cells?, Option.some.injEq] at hc
    subst hc
    obtain ⟨arr, rfl, h2⟩ := h
    exact h2
  | tup _ => simp [cells?] at hc
  | clo f ds =>
    simp only [cells?, Option.some.injEq] at hc
    subst hc
    have h' := h
    obtain ⟨arr, rfl, h2⟩ := h
    exact ⟨h', trivial⟩
  | mp k =>
    simp only [cells?, Option.some.injEq] at hc
    subst hc
    have h' := h
    obtain ⟨_, rfl⟩ := h
    exact ⟨h', trivial⟩
  | itr _ => exact h.elim

theorem ofConst_rep (c : Value) : RepV ρ X w (ofConst c) c := by
  cases c with
  | agg arr =>
    refine ⟨arr, rfl, RepL_mk (by simp) fun f x hx => ?_⟩
    simp only [List.getElem?_map, Option.map_eq_some_iff] at hx
    obtain ⟨u, hu, rfl⟩ := hx
    exact ⟨u, hu, rfl⟩
  | _ => rfl

theorem ev_rep {e : Env} {a : Act} (he : RepE ρ X w e a.tmps) (x : Operand) : RepV ρ X w (ev e x) (a.eval x) := by
  cases x with
  | tmp t => exact he t
  | const c => exact ofConst_rep c
  | func f => exact ⟨#[], rfl, trivial⟩
  | global g => trivial

theorem get_put (e : Env) (d i : Nat) (x : V) : get ((d, x) :: e) i = if i = d then x else get e i := rfl

theorem RepE_put {e : Env} {a : Act} (he : RepE ρ X w e a.tmps) {d : Option Nat} {x : V} {val : Value} (hx : RepV ρ X w x val) (hd : ∀ n, d = some n → n < a.tmps.size) (s : St) (hs : s.e = e) :
    RepE ρ X w (s.put d x).e (a.put d val).tmps := by
  subst hs
  cases d with
  | none => exact he
  | some n =>
    intro i
    have hn := hd n rfl
    simp only [St.put, get_put, Act.put]
    by_cases hi : i = n
    · subst hi
      simpa [hn] using hx
    · have := he i
      rw [if_neg hi]
      simpa [Array.getD_eq_getD_getElem?, Array.getElem?_setIfInBounds, Ne.symm hi] using this
theorem size_put (a : Act) (d : Option Nat) (val : Value) : (a.put d val).tmps.size = a.tmps.size := by cases d <;> simp [Act.put]
end
end Go.Fx
