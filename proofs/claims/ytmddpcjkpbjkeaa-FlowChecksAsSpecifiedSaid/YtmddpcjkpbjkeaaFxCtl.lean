import Derived.Test.YtmddpcjkpbjkeaaFxOp
set_option linter.unusedVariables false
set_option linter.unusedSimpArgs false
set_option linter.unusedSectionVars false
namespace Go.Fx
open Go.RowKit

/-! ### Regions -/

def gOk (ops : Array Oper) (N : Nat) : Option (Nat × Bool) → Option (Option (Nat × Bool))
  | none => some none
  | some (j, want) => match ops[j]? with
    | some oj => match oj.dst with
      | some g => if g < N then some (some (g, want)) else none
      | none => none
    | none => none

def dOk (N : Nat) : Option Nat → Bool
  | none => true
  | some d => decide (d < N)

/-- A region's operations made anew. -/
def rlOs (P : Program) (ops : Array Oper) (N : Nat) : List Oper → List LOper → Option (List LOper)
  | [], [] => some []
  | o :: os, l :: ls => match rl P o.op l.op, gOk ops N o.guard, dOk N o.dst, rlOs P ops N os ls with
    | some op, some g, true, some r => some (⟨o.dst, op, g⟩ :: r)
    | _, _, _, _ => none
  | _, _ => none

theorem rlOs_cons {P : Program} {ops : Array Oper} {N : Nat} {o : Oper} {os : List Oper} {ls0 : List LOper} {l : LOper} {ls : List LOper} (h : rlOs P ops N (o :: os) ls0 = some (l :: ls)) :
    ∃ l0 r0 op g, ls0 = l0 :: r0 ∧ rl P o.op l0.op = some op ∧ gOk ops N o.guard = some g ∧ (∀ d, o.dst = some d → d < N) ∧ l = ⟨o.dst, op, g⟩ ∧ rlOs P ops N os r0 = some ls := by
  cases ls0 with
  | nil => simp [rlOs] at h
  | cons l0 r0 =>
    simp only [rlOs] at h
    split at h
    · rename_i op g r h1 h2 h3 h4
      simp only [Option.some.injEq, List.cons.injEq] at h
      obtain ⟨rfl, rfl⟩ := h
      refine ⟨l0, r0, op, g, rfl, h1, h2, fun d hd => ?_, rfl, h4⟩
      simpa [dOk, hd] using h3
    · cases h

theorem rlOs_nil {P : Program} {ops : Array Oper} {N : Nat} {os : List Oper} {ls0 : List LOper} (h : rlOs P ops N os ls0 = some []) : os = [] := by
  cases os with
  | nil => rfl
  | cons o os =>
    cases ls0 with
    | nil => simp [rlOs] at h
    | cons l0 r0 =>
      simp only [rlOs] at h
      split at h <;> simp at h

section
variable {P : Program} (ρ0 : Nat → Loc) (X : Nat → Prop) (w0 : World) (fx : List Nat) (N : Nat)

/-- The state stands for the frame and the world; since the function began, no more has turned than may. -/
def Good (s : St) (a : Act) (w : World) : Prop :=
  ∃ ρ, ((Fr ρ0 w0 ρ w ∧ ∀ k ∈ fx, ρ k = ρ0 k) ∧ keepP fx s.h) ∧ (Rep ρ X w s.h ∧ RepE ρ X w s.e a.tmps) ∧ a.tmps.size = N ∧ a.defers = []

variable {ρ0 X w0 fx N}

theorem Good.sound {s : St} {a : Act} {w : World} {ρ : Nat → Loc} (h1 : (Fr ρ0 w0 ρ w ∧ ∀ k ∈ fx, ρ k = ρ0 k) ∧ keepP fx s.h) (h3 : a.tmps.size = N ∧ a.defers = []) {K : V → St → Prop} {d : Option Nat} (hd : ∀ n, d = some n → n < N) {val : Value} {w' : World}
    {bn : List Nat} (h : Sound fx bn ρ X w a.tmps K val w') : ∃ x s', K x s' ∧ Good ρ0 X w0 fx N (s'.put d x) (a.put d val) w' := by
  obtain ⟨x, s', ρ', hK, ⟨hk, hfx, _⟩, hf, hr, he, hv⟩ := h
  have hh : (s'.put d x).h = s'.h := by cases d <;> rfl
  refine ⟨x, s', hK, ρ', ⟨⟨h1.1.1.trans hf, fun k hk' => (hfx k hk').trans (h1.1.2 k hk')⟩, by rw [hh]; exact hk⟩, ⟨by rw [hh]; exact hr, ?_⟩, by rw [size_put]; exact h3.1, by cases d <;> exact h3.2⟩
  exact RepE_put (e := s'.e) he hv (fun n hn => by rw [h3.1]; exact hd n hn) s' rfl

theorem yielded_of {ops : Array Oper} {a : Act} {j g : Nat} {oj : Oper} (hj : ops[j]? = some oj) (hg : oj.dst = some g) (hN : g < a.tmps.size) : yielded ops a.tmps j = match a.tmps.getD g undef with | .bool b => some b | _ => none := by
  unfold yielded
  simp only [hj, Option.bind_some, hg]
  rw [Array.getElem?_eq_getElem hN, Array.getD_eq_getD_getElem?, Array.getElem?_eq_getElem hN]
  simp only [Option.getD_some]
  cases a.tmps[g] <;> rfl

theorem Good.put_same {s : St} {a : Act} {w : World} {ρ : Nat → Loc} {g : Nat} {b : Bool} (he : RepE ρ X w s.e a.tmps) (hg : a.tmps.getD g undef = .bool b) : RepE ρ X w ((g, V.b b) :: s.e) a.tmps := by
  intro i
  rw [get_put]
  split
  · rename_i hi
    subst hi
    rw [hg]
    exact rfl
  · exact he i

/-- The environment, but for a truth value that is known now. -/
def EnvB (e e' : Env) : Prop := ∀ j, get e' j = get e j ∨ ∃ b, get e' j = V.b b
theorem EnvB.refl (e : Env) : EnvB e e := fun _ => .inl rfl
theorem EnvB.put (e : Env) (g : Nat) (b : Bool) : EnvB e ((g, V.b b) :: e) := fun j => by
  rw [get_put]
  split
  · exact .inr ⟨b, rfl⟩
  · exact .inl rfl

/-- What a guard says: run or pass over. -/
theorem guard_cases {cx : Cx} {ops : Array Oper} {o : Oper} {op : LOp} {g : Option (Nat × Bool)} {s : St} {a : Act} {w : World} {ρ : Nat → Loc} {K : St → Prop} (hN : a.tmps.size = N) (hg : gOk ops N o.guard = some g)
    (he : RepE ρ X w s.e a.tmps) (h : aOper cx ⟨o.dst, op, g⟩ s K) :
    (Region.wanted o (yielded ops a.tmps) = true ∧ ∃ e', EnvB s.e e' ∧ RepE ρ X w e' a.tmps ∧ aOp cx op { s with e := e' } fun x s' => K (s'.put o.dst x)) ∨
    (Region.wanted o (yielded ops a.tmps) = false ∧ ∃ e', EnvB s.e e' ∧ RepE ρ X w e' a.tmps ∧ K (St.put { s with e := e' } o.dst (.v (.tuple #[])))) := by
  cases ho : o.guard with
  | none =>
    rw [ho] at hg
    simp only [gOk, Option.some.injEq] at hg
    subst hg
    exact .inl ⟨by simp [Region.wanted, ho], s.e, EnvB.refl _, he, h⟩
  | some jw =>
    obtain ⟨j, want⟩ := jw
    rw [ho] at hg
    simp only [gOk] at hg
    split at hg
    · rename_i oj hj
      split at hg
      · rename_i gs hgs
        split at hg
        · rename_i hlt
          simp only [Option.some.injEq] at hg
          subst hg
          have hy := yielded_of hj hgs (a := a) (hN.symm ▸ hlt)
          have hrep := he gs
          simp only [aOper, guardP] at h
          split at h
          · rename_i b hb
            rw [hb] at hrep
            have hrep' : a.tmps.getD gs undef = .bool b := hrep
            rw [hrep'] at hy
            have hw : Region.wanted o (yielded ops a.tmps) = (b == want) := by
              simp [Region.wanted, ho, hy]
            cases b <;> cases want
            · refine .inl ⟨by rw [hw]; rfl, _, EnvB.put _ _ _, Good.put_same he hrep', ?_⟩
              simp only [Bool.false_eq_true, if_false] at h
              exact h.2 rfl
            · refine .inr ⟨by rw [hw]; rfl, _, EnvB.put _ _ _, Good.put_same he hrep', ?_⟩
              simp only [if_true] at h
              exact h.2 rfl
            · refine .inr ⟨by rw [hw]; rfl, _, EnvB.put _ _ _, Good.put_same he hrep', ?_⟩
              simp only [Bool.false_eq_true, if_false] at h
              exact h.1 rfl
            · refine .inl ⟨by rw [hw]; rfl, _, EnvB.put _ _ _, Good.put_same he hrep', ?_⟩
              simp only [if_true] at h
              exact h.1 rfl
          · rename_i u hu
            rw [hu] at hrep
            have hrep' : a.tmps.getD gs undef = .tuple u := hrep
            rw [hrep'] at hy
            exact .inr ⟨by simp [Region.wanted, ho, hy], s.e, EnvB.refl _, he, h⟩
          · exact h.elim
        · cases hg
      · cases hg
    · cases hg

/-- A REGION IN ITS ORDER. -/
theorem aOps_sound {cx : Cx} (hcx : cx.ok P) (hfxe : cx.fx = fx) {ops : Array Oper} {Q : Exit → Act → World → Prop} {K : St → Prop} (hQ : ∀ s a w, K s → Good ρ0 X w0 fx N s a w → Q .normal a w) :
    ∀ (os : List Oper) (ls0 ls : List LOper) (s : St) (a : Act) (w : World), rlOs P ops N os ls0 = some ls → Good ρ0 X w0 fx N s a w → aOps cx ls s K → wpList P ops Q os a w
  | os, ls0, [], s, a, w, hm, hg, h => by
    have := rlOs_nil hm
    subst this
    exact hQ s a w h hg
  | [], ls0, l :: ls, s, a, w, hm, hg, h => by
    cases ls0 <;> simp [rlOs] at hm
  | o :: os, ls0, l :: ls, s, a, w, hm, hg, h => by
    obtain ⟨l0, r0, op, g, rfl, h1, h2, hd, rfl, h4⟩ := rlOs_cons hm
    obtain ⟨ρ, hpre, ⟨hr, he⟩, hN, hdf⟩ := hg
    simp only [aOps] at h
    unfold wpList
    rcases guard_cases hN h2 he h with ⟨hw, e', _, he', h'⟩ | ⟨hw, e', _, he', h'⟩
    · rw [if_pos hw]
      left
      refine Oper.wp_mono ?_ (aOp_sound hcx h1 (s := { s with e := e' }) hr he' (by rw [hfxe]; exact hpre.2) h')
      rintro a' w' ⟨val, rfl, hs⟩
      rw [hfxe] at hs
      obtain ⟨x, s', hK, hgood⟩ := Good.sound (s := s) hpre ⟨hN, hdf⟩ hd hs
      exact aOps_sound hcx hfxe hQ os r0 ls _ _ _ h4 hgood hK
    · rw [if_neg (by rw [hw]; exact Bool.false_ne_true)]
      have hh : (St.put { s with e := e' } o.dst (.v (.tuple #[]))).h = s.h := by cases o.dst <;> rfl
      refine aOps_sound hcx hfxe hQ os r0 ls _ _ _ h4 ⟨ρ, ⟨hpre.1, by rw [hh]; exact hpre.2⟩, ⟨by rw [hh]; exact hr, ?_⟩, by rw [size_put]; exact hN, by cases o.dst <;> exact hdf⟩ h'
      exact RepE_put (e := e') (x := .v (.tuple #[])) (val := undef) he' rfl (fun n hn => by rw [hN]; exact hd n hn) _ rfl

theorem Good.reserve {s : St} {a : Act} {w : World} (n m : Nat) (h : Good ρ0 X w0 fx N s a w) : Good ρ0 X w0 fx N { s with b := m, h := s.h ++ List.replicate n .dead } a w := by
  obtain ⟨ρ, ⟨h1, hk⟩, ⟨hr, he⟩, h3⟩ := h
  refine ⟨ρ, ⟨h1, keepP_mono hk fun k hl => ?_⟩, ⟨⟨hr.inj, fun k hk' => hr.out k (by simp at hk'; omega), fun k B hB => ?_, hr.disj, hr.lt, hr.xlt⟩, he⟩, h3⟩
  · unfold liveP at hl ⊢
    cases hb : s.h[k]? with
    | none => rw [hb] at hl; exact hl.elim
    | some B =>
      have hlt : k < s.h.length := (List.getElem?_eq_some_iff.1 hb).1
      rw [List.getElem?_append_left hlt]
      exact hl
  · rcases Nat.lt_or_ge k s.h.length with hlt | hge
    · rw [List.getElem?_append_left hlt] at hB
      exact hr.blk k B hB
    · rw [List.getElem?_append_right hge, List.getElem?_replicate] at hB
      split at hB
      · simp only [Option.some.injEq] at hB
        subst hB
        exact hr.out k hge
      · cases hB

theorem Good.drew {s : St} {a : Act} {w : World} (h : Good ρ0 X w0 fx N s a w) : Good ρ0 X w0 fx N s a { w with drawn := w.drawn + 1 } := by
  obtain ⟨ρ, ⟨⟨hf, h1⟩, hk⟩, ⟨hr, he⟩, h3⟩ := h
  have hf1 : Fr ρ w ρ { w with drawn := w.drawn + 1 } := ⟨rfl, rfl, rfl, Nat.le_refl _, fun _ _ ho => ⟨rfl, ho⟩⟩
  refine ⟨ρ, ⟨⟨hf.trans hf1, h1⟩, hk⟩, ⟨⟨hr.inj, hr.out, fun k B hB => ?_, hr.disj, hr.lt, hr.xlt⟩, RepE_mono hf1 (fun _ _ => rfl) he⟩, h3⟩
  exact RepB_mono hf1 (fun _ _ => rfl) rfl (fun _ => rfl) (hr.blk k B hB)

/-- ONE OPERATION OF A QUIET REGION: its value is the same in every world in which nothing that was there has turned. -/
theorem quiet_step {cx : Cx} {ops : Array Oper} {o : Oper} {l0 : LOp} {op : LOp} {g : Option (Nat × Bool)} {s : St} {a : Act} {w : World} {ρ : Nat → Loc} {K : St → Prop} (hq : quietOp op = true) (hm : rl P o.op l0 = some op) (hg : gOk ops N o.guard = some g)
    (hr : Rep ρ X w s.h) (he : RepE ρ X w s.e a.tmps) (hN : a.tmps.size = N) (hd : ∀ n, o.dst = some n → n < N) (h : aOper cx ⟨o.dst, op, g⟩ s K) :
    ∃ val s', K s' ∧ s'.h = s.h ∧ RepE ρ X w s'.e (a.put o.dst val).tmps ∧
      ((Region.wanted o (yielded ops a.tmps) = true ∧ QRun P o a w val) ∨ (Region.wanted o (yielded ops a.tmps) = false ∧ val = undef)) := by
  rcases guard_cases hN hg he h with ⟨hw, e', _, he', h'⟩ | ⟨hw, e', _, he', h'⟩
  · obtain ⟨x, val, h1, h2, h3⟩ := quiet_sound (s := { s with e := e' }) hq hm hr he' h'
    exact ⟨val, _, h1, by cases o.dst <;> rfl, RepE_put (e := e') he' h2 (fun n hn => by rw [hN]; exact hd n hn) _ rfl, .inl ⟨hw, h3⟩⟩
  · exact ⟨undef, _, h', by cases o.dst <;> rfl, RepE_put (e := e') (x := .v (.tuple #[])) (val := undef) he' rfl (fun n hn => by rw [hN]; exact hd n hn) _ rfl, .inr ⟨hw, rfl⟩⟩

theorem wpStill_of {cx : Cx} {ops : Array Oper} {w : World} {ρ : Nat → Loc} {K : St → Prop} {L : Act → Prop} (hL : ∀ s a, K s → RepE ρ X w s.e a.tmps → a.tmps.size = N → a.defers = [] → Rep ρ X w s.h → keepP fx s.h → L a) :
    ∀ (os : List Oper) (ls0 ls : List LOper) (s : St) (a : Act), rlOs P ops N os ls0 = some ls → (∀ l ∈ ls, quietOp l.op = true) → Rep ρ X w s.h → keepP fx s.h → RepE ρ X w s.e a.tmps → a.tmps.size = N → a.defers = [] → aOps cx ls s K →
      wpStill P ops w L os a
  | os, ls0, [], s, a, hm, _, hr, hk, he, hN, hdf, h => by
    have := rlOs_nil hm
    subst this
    exact hL s a h he hN hdf hr hk
  | [], ls0, l :: ls, s, a, hm, _, _, _, _, _, _, _ => by
    cases ls0 <;> simp [rlOs] at hm
  | o :: os, ls0, l :: ls, s, a, hm, hq, hr, hk, he, hN, hdf, h => by
    obtain ⟨l0, r0, op, g, rfl, h1, h2, hd, rfl, h4⟩ := rlOs_cons hm
    simp only [aOps] at h
    obtain ⟨val, s', hK, hh, he', hor⟩ := quiet_step (hq _ List.mem_cons_self) h1 h2 hr he hN hd h
    have ih := wpStill_of hL os r0 ls s' (a.put o.dst val) h4 (fun l hl => hq l (by simp [hl])) (by rw [hh]; exact hr) (by rw [hh]; exact hk) he' (by rw [size_put]; exact hN) (by cases o.dst <;> exact hdf) hK
    unfold wpStill
    rcases hor with ⟨hw, hrun⟩ | ⟨hw, rfl⟩
    · rw [if_pos hw]
      unfold Oper.still
      rw [hrun w (Ext.refl w)]
      exact ⟨rfl, ih⟩
    · rw [if_neg (by rw [hw]; exact Bool.false_ne_true)]
      exact ih
theorem wpQuiet_of {cx : Cx} {ops : Array Oper} {w : World} {C : World → Prop} (hC : ∀ w', C w' → Ext w w') {ρ : Nat → Loc} {K : St → Prop} {L : Act → Prop} (hL : ∀ s a, K s → RepE ρ X w s.e a.tmps → a.tmps.size = N → a.defers = [] → Rep ρ X w s.h → keepP fx s.h → L a) :
    ∀ (os : List Oper) (ls0 ls : List LOper) (s : St) (a : Act), rlOs P ops N os ls0 = some ls → (∀ l ∈ ls, quietOp l.op = true) → Rep ρ X w s.h → keepP fx s.h → RepE ρ X w s.e a.tmps → a.tmps.size = N → a.defers = [] → aOps cx ls s K →
      wpQuiet P ops C L os a
  | os, ls0, [], s, a, hm, _, hr, hk, he, hN, hdf, h => by
    have := rlOs_nil hm
    subst this
    exact hL s a h he hN hdf hr hk
  | [], ls0, l :: ls, s, a, hm, _, _, _, _, _, _, _ => by
    cases ls0 <;> simp [rlOs] at hm
  | o :: os, ls0, l :: ls, s, a, hm, hq, hr, hk, he, hN, hdf, h => by
    obtain ⟨l0, r0, op, g, rfl, h1, h2, hd, rfl, h4⟩ := rlOs_cons hm
    simp only [aOps] at h
    obtain ⟨val, s', hK, hh, he', hor⟩ := quiet_step (hq _ List.mem_cons_self) h1 h2 hr he hN hd h
    have ih := wpQuiet_of hC hL os r0 ls s' (a.put o.dst val) h4 (fun l hl => hq l (by simp [hl])) (by rw [hh]; exact hr) (by rw [hh]; exact hk) he' (by rw [size_put]; exact hN) (by cases o.dst <;> exact hdf) hK
    unfold wpQuiet
    rcases hor with ⟨hw, hrun⟩ | ⟨hw, rfl⟩
    · rw [if_pos hw]
      refine ⟨val, fun w' hw' => ?_, ih⟩
      unfold Oper.quietAt
      rw [hrun w' (hC w' hw')]
      exact ⟨rfl, rfl⟩
    · rw [if_neg (by rw [hw]; exact Bool.false_ne_true)]
      exact ih

theorem aOps_append {cx : Cx} : ∀ (l1 l2 : List LOper) (s : St) (K : St → Prop), aOps cx (l1 ++ l2) s K = aOps cx l1 s fun s' => aOps cx l2 s' K
  | [], _, _, _ => rfl
  | o :: r, l2, s, K => by
    simp only [List.cons_append, aOps]
    congr 1
    funext s'
    exact aOps_append r l2 s' K

theorem rlOs_split {ops : Array Oper} : ∀ (m : Nat) (os : List Oper) (ls0 ls : List LOper), rlOs P ops N os ls0 = some ls →
    rlOs P ops N (os.take m) (ls0.take m) = some (ls.take m) ∧ rlOs P ops N (os.drop m) (ls0.drop m) = some (ls.drop m)
  | 0, os, ls0, ls, h => by simp [rlOs, h]
  | m + 1, [], ls0, ls, h => by
    cases ls0 with
    | nil => simp [rlOs] at h; subst h; simp [rlOs]
    | cons _ _ => simp [rlOs] at h
  | m + 1, o :: os, ls0, ls, h => by
    cases ls with
    | nil => have := rlOs_nil h; cases this
    | cons l ls =>
      obtain ⟨l0, r0, op, g, rfl, h1, h2, hd, rfl, h4⟩ := rlOs_cons h
      obtain ⟨h5, h6⟩ := rlOs_split m os r0 ls h4
      refine ⟨?_, by simpa using h6⟩
      have hd' : dOk N o.dst = true := by
        cases hdst : o.dst with
        | none => rfl
        | some d => simpa [dOk] using hd d hdst
      simp [rlOs, h1, h2, hd', h5]

theorem Good.heap {s : St} {a : Act} {w w' : World} (h : Good ρ0 X w0 fx N s a w) (hh : w'.heap = w.heap) (h1 : w'.os = w.os) (h2 : w'.tape = w.tape) (h3 : w'.output = w.output) : Good ρ0 X w0 fx N s a w' := by
  obtain ⟨ρ, ⟨⟨hf, h4⟩, hk⟩, ⟨hr, he⟩, h5⟩ := h
  have hf1 : Fr ρ w ρ w' := ⟨h1, h2, h3, by rw [hh]; exact Nat.le_refl _, fun _ _ ho => ⟨by rw [hh], ho⟩⟩
  refine ⟨ρ, ⟨⟨hf.trans hf1, h4⟩, hk⟩, ⟨⟨hr.inj, hr.out, fun k B hB => ?_, hr.disj, fun k hk => by rw [hh]; exact hr.lt k hk, fun b hb => by rw [hh]; exact hr.xlt b hb⟩, RepE_mono hf1 (fun _ _ => rfl) he⟩, h5⟩
  exact RepB_mono hf1 (fun _ _ => rfl) rfl (fun _ => by rw [hh]) (hr.blk k B hB)

/-- A region that draws its order and only reads. -/
theorem qui_sound (hP : P.follows .mixedOrders = true) {cx : Cx} {ops : Array Oper} {id : Nat} {Q : Exit → Act → World → Prop} {K : St → Prop} (hQ : ∀ s a w, K s → Good ρ0 X w0 fx N s a w → Q .normal a w)
    {ls0 ls : List LOper} {s : St} {a : Act} {w : World} (hm : rlOs P ops N ops.toList ls0 = some ls) (hq : ls.all (fun l => quietOp l.op) = true) (hB : Region.lexB .any ops = true)
    (hg : Good ρ0 X w0 fx N s a w) (h : aOps cx ls s K) : (Code.region id ops true).wp P Q a w := by
  obtain ⟨ρ, hpre, ⟨hr, he⟩, hN, hdf⟩ := hg
  refine wp_region_quiet (C := fun w' => w'.heap = w.heap ∧ w'.os = w.os ∧ w'.tape = w.tape ∧ w'.output = w.output) hP hB ⟨rfl, rfl, rfl, rfl⟩ ?_
  refine wpQuiet_of (fx := fx) (cx := cx) (ρ := ρ) (K := K) (fun w' hw' b _ => by rw [hw'.1]) ?_ _ _ _ s a hm (fun l hl => List.all_eq_true.1 hq l hl) hr hpre.2 he hN hdf h
  intro s' a' hK he' hN' hdf' hr' hk' w' hw'
  refine hQ s' a' w' hK ?_
  exact Good.heap (w := w) ⟨ρ, ⟨hpre.1, hk'⟩, ⟨hr', he'⟩, hN', hdf'⟩ hw'.1 hw'.2.1 hw'.2.2.1 hw'.2.2.2

/-- A region that draws its order, reads, and acts at its end. -/
theorem tail_sound (hP : P.follows .mixedOrders = true) {cx : Cx} (hcx : cx.ok P) (hfxe : cx.fx = fx) {ops : Array Oper} {id : Nat} {Q : Exit → Act → World → Prop} {K : St → Prop} (hQ : ∀ s a w, K s → Good ρ0 X w0 fx N s a w → Q .normal a w)
    {m : Nat} {ls0 ls : List LOper} {s : St} {a : Act} {w : World} (hm : rlOs P ops N ops.toList ls0 = some ls) (hq : (ls.take m).all (fun l => quietOp l.op) = true) (hB : Region.lexTailB .any ops m = true)
    (hg : Good ρ0 X w0 fx N s a w) (h : aOps cx ls s K) : (Code.region id ops true).wp P Q a w := by
  obtain ⟨ρ, hpre, ⟨hr, he⟩, hN, hdf⟩ := Good.drew hg
  obtain ⟨h1, h2⟩ := rlOs_split m _ _ _ hm
  have hops : ops = ops.toList.toArray := by simp
  rw [hops] at hB ⊢
  refine wp_region_still_tail m hP hB ?_
  rw [← List.take_append_drop m ls, aOps_append] at h
  refine wpStill_of (fx := fx) (cx := cx) (ρ := ρ) (K := fun s' => aOps cx (ls.drop m) s' K) ?_ _ _ _ s a (by rw [← hops]; exact h1) (fun l hl => List.all_eq_true.1 hq l hl) hr hpre.2 he hN hdf h
  intro s' a' hK he' hN' hdf' hr' hk'
  exact aOps_sound hcx hfxe hQ _ _ _ s' a' _ (by rw [← hops]; exact h2) ⟨ρ, ⟨hpre.1, hk'⟩, ⟨hr', he'⟩, hN', hdf'⟩ hK
end
end Go.Fx
