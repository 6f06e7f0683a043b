import Derived.Test.YtmddpcjkpbjkeaaFxCtl
import Derived.OrdersHeld
set_option linter.unusedVariables false
set_option linter.unusedSimpArgs false
set_option linter.unusedSectionVars false
namespace Go.Fx
open Go.RowKit

/-! ### A region whose order is drawn, with effects -/

section
variable {P : Program} {md : Region.Mode} {ops : Array Oper} {Q : Exit → Act → World → Prop} {Γ : Type} {G : Nat → Γ → World → Γ → World → Prop}

/-- Whatever order is picked; a ghost goes along. -/
def wpAnyG (P : Program) (md : Region.Mode) (ops : Array Oper) (Q : Exit → Act → World → Prop) (G : Nat → Γ → World → Γ → World → Prop) : Nat → Array Bool → Γ → Act → World → Prop
  | 0, listed, _, a, w => Region.ready md ops listed = [] ∧ Q .normal a w
  | fuel + 1, listed, g, a, w =>
    (Region.ready md ops listed = [] → Q .normal a w) ∧
    ∀ i ∈ Region.ready md ops listed, wpOp P ops Q i (fun a' w' => ∃ g', G i g w g' w' ∧ wpAnyG P md ops Q G fuel (listed.setIfInBounds i true) g' a' w') a w

theorem wpAny_of_G : ∀ (fuel : Nat) (listed : Array Bool) (g : Γ) (a : Act) (w : World), wpAnyG P md ops Q G fuel listed g a w → wpAny P md ops Q fuel listed a w
  | 0, _, _, _, _, h => h
  | fuel + 1, _, _, _, _, h => ⟨h.1, fun i hi => wpOp_mono (fun a' w' ⟨g', _, h'⟩ => wpAny_of_G fuel _ g' a' w' h') (h.2 i hi)⟩

theorem wpAnyG_weak {g g2 : Γ} {w : World} (h : ∀ i g' w', G i g2 w g' w' → G i g w g' w') : ∀ (fuel : Nat) (listed : Array Bool) (a : Act), wpAnyG P md ops Q G fuel listed g2 a w → wpAnyG P md ops Q G fuel listed g a w
  | 0, _, _, hh => hh
  | _ + 1, _, _, hh => ⟨hh.1, fun i hi => wpOp_mono (fun _ w' ⟨g', h1, h2⟩ => ⟨g', h i g' w' h1, h2⟩) (hh.2 i hi)⟩

theorem wpAnyG_first {i : Nat} {oi : Oper} {v : Value} (hi : ops[i]? = some oi) (hsel : ∀ (j : Nat) (o : Oper) cs b, ops[j]? = some o → o.op ≠ .select cs b)
    (hQ : ∀ c a w, Q (.panic c) (a.put oi.dst v) w → Q (.panic c) a w) {D : Nat → Prop} (hD : ∀ j oj, D j → ops[j]? = some oj → ∃ e ∈ oj.after, Region.binds md e = true ∧ (e.on = i ∨ D e.on))
    {Inv : Γ → World → Prop} (hGi : ∀ g w, Inv g w → G i g w g w) :
    ∀ (fuel : Nat) (listed : Array Bool) (g : Γ) (a : Act) (w : World),
      (∀ j oj, ops[j]? = some oj → j ≠ i → listed.getD j true = false → (∀ e ∈ oj.after, Region.binds md e = true → e.on ≠ i) → oi.apart ops oj = true) →
      (∀ j, D j → listed.getD j false = false) →
      (∀ j oj, ops[j]? = some oj → j ≠ i → ¬ D j → listed.getD j true = false → ∀ g w g' w', G j g w g' w' → Inv g w → Inv g' w') →
      i ∈ Region.ready md ops listed → YieldsIf P ops (fun w => ∃ g, Inv g w) oi v a → Inv g w →
      wpAnyG P md ops Q G fuel (listed.setIfInBounds i true) g (a.put oi.dst v) w → wpAnyG P md ops Q G (fuel + 1) listed g a w := by
  intro fuel
  induction fuel with
  | zero =>
    intro listed g a w _ _ _ hr hy hS H
    refine ⟨fun h => (by rw [h] at hr; cases hr), fun j hj => ?_⟩
    by_cases hji : j = i
    · subst hji; exact hy.wpOp hi ⟨g, hS⟩ ⟨g, hGi g w hS, H⟩
    · have := ready_mono hj hji
      rw [H.1] at this
      cases this
  | succ fuel ih =>
    intro listed g a w hfree hun hinv hr hy hS H
    refine ⟨fun h => (by rw [h] at hr; cases hr), fun j hj => ?_⟩
    by_cases hji : j = i
    · subst hji; exact hy.wpOp hi ⟨g, hS⟩ ⟨g, hGi g w hS, H⟩
    · have h1 := H.2 j (ready_mono hj hji)
      obtain ⟨hjun, oj, hoj, hall⟩ := mem_ready.1 hj
      have hiun : listed.getD i false = false := by
        have h0 := (mem_ready.1 hr).1
        rcases Nat.lt_or_ge i listed.size with h' | h'
        · simpa [h'] using h0
        · simp [Array.getElem?_eq_none h']
      have hnot : ∀ e ∈ oj.after, Region.binds md e = true → e.on ≠ i := fun e he hb heq => by
        have h1 := hall e he hb
        rw [heq, hiun] at h1
        cases h1
      have hnD : ¬ D j := fun hd => by
        obtain ⟨e, he, hb, h2⟩ := hD j oj hd hoj
        have h3 := hall e he hb
        rcases h2 with h2 | h2
        · rw [h2, hiun] at h3; cases h3
        · rw [hun _ h2] at h3; cases h3
      have h2 := wpOp_putIf hoj (hfree j oj hoj hji hjun hnot) (fun cs b => hsel i oi cs b hi) (fun cs b => hsel j oj cs b hoj) hQ hy h1
      have hset : ∀ k, (listed.setIfInBounds j true).getD k true = false → listed.getD k true = false := fun k hk => by
        by_cases hjk : j = k
        · subst hjk; exact hjun
        · rw [getD_set_ne true hjk] at hk; exact hk
      have hfree' : ∀ k ok, ops[k]? = some ok → k ≠ i → (listed.setIfInBounds j true).getD k true = false →
          (∀ e ∈ ok.after, Region.binds md e = true → e.on ≠ i) → oi.apart ops ok = true := fun k ok hk hki hu hno => hfree k ok hk hki (hset k hu) hno
      have hun' : ∀ k, D k → (listed.setIfInBounds j true).getD k false = false := fun k hk => by
        have hne : j ≠ k := fun e => hnD (e ▸ hk)
        rw [getD_set_ne false hne]
        exact hun k hk
      refine wpOp_mono (fun a' w' h3 => ?_) h2
      obtain ⟨hy', g', hG, h4⟩ := h3
      refine ⟨g', hG, ih (listed.setIfInBounds j true) g' a' w' hfree' hun' (fun k ok hok hki hkD hku => hinv k ok hok hki hkD (hset k hku)) (ready_mono hr (Ne.symm hji)) hy' (hinv j oj hoj hji hnD hjun _ _ _ _ hG hS) ?_⟩
      rw [Array.setIfInBounds_comm _ _ hji]
      exact h4
end

def isLoad : LOp → Bool
  | .load _ _ => true
  | _ => false

/-- The effects that need not keep off what was read. -/
def rsOf : LPlan → List Nat
  | .alt i _ r p q => (if r then [] else [i]) ++ rsOf p ++ rsOf q
  | .take _ _ _ p => rsOf p
  | .done => []
  | .none => []

def takeOk (ops : Array Oper) (rs : Nat → Bool) (listed : Array Bool) (i : Nat) (D : List Nat) (op : LOp) : Bool :=
  ((Region.ready .any ops listed).contains i && Region.free .any ops listed i && quietOp op) &&
  ((D.all fun d => !(listed.getD d false) && match ops[d]? with
    | some od => od.after.any fun e => Region.binds .any e && (e.on == i || D.contains e.on)
    | none => true) &&
  (!isLoad op || (List.range ops.size).all fun j => j == i || D.contains j || listed.getD j true || rs j))

/-- A plan made anew. -/
def rlP (P : Program) (N : Nat) (ops : Array Oper) (rs : Nat → Bool) : LPlan → Array Bool → Nat → Option (List Nat) → Option LPlan
  | .done, listed, _, none => if (Region.ready .any ops listed).isEmpty then some .done else none
  | .take i D l p, listed, fuel + 1, none => match ops[i]? with
    | some o => match rl P o.op l.op, gOk ops N o.guard, dOk N o.dst, rlP P N ops rs p (listed.setIfInBounds i true) fuel none with
      | some op, some g, true, some p' => if takeOk ops rs listed i D op then some (.take i D ⟨o.dst, op, g⟩ p') else none
      | _, _, _, _ => none
    | none => none
  | .alt i l r p q, listed, fuel + 1, rem => match rem.getD (Region.ready .any ops listed), ops[i]? with
    | j :: js, some o => match rl P o.op l.op, gOk ops N o.guard, dOk N o.dst, rlP P N ops rs p (listed.setIfInBounds i true) fuel none, rlP P N ops rs q listed (fuel + 1) (some js) with
      | some op, some g, true, some p', some q' => if j = i ∧ r = rs i then some (.alt i ⟨o.dst, op, g⟩ r p' q') else none
      | _, _, _, _, _ => none
    | _, _ => none
  | .none, _, _, some [] => some .none
  | _, _, _, _ => none

section
variable {P : Program} {ρ0 : Nat → Loc} {X : Nat → Prop} {w0 : World} {fx : List Nat} {N : Nat}

/-- The ghost: where the own blocks lie, and which places must stay as they are. -/
abbrev Gh := (Nat → Loc) × (Nat → Prop)

def GR (rs : Nat → Bool) (j : Nat) (g : Gh) (w : World) (g' : Gh) (w' : World) : Prop :=
  Fr g.1 w g'.1 w' ∧ (rs j = true → (∀ b, g.2 b → g'.2 b) ∧ ∀ b, g.2 b → b < w.heap.size → w'.heap[b]? = w.heap[b]?)

def GoodAt (ρ0 : Nat → Loc) (X : Nat → Prop) (w0 : World) (fx : List Nat) (N : Nat) (ρ : Nat → Loc) (s : St) (a : Act) (w : World) : Prop :=
  ((Fr ρ0 w0 ρ w ∧ ∀ k ∈ fx, ρ k = ρ0 k) ∧ keepP fx s.h) ∧ (Rep ρ X w s.h ∧ RepE ρ X w s.e a.tmps) ∧ a.tmps.size = N ∧ a.defers = []

def BI (ρ : Nat → Loc) (B : Nat → Prop) (bn : List Nat) (w : World) : Prop :=
  ∀ b, B b → b < w.heap.size ∧ ((∃ k ∈ bn, (ρ k).real = true ∧ (ρ k).blk = b) ∨ ¬ Own ρ b)

/-- What a load that is put off needs. -/
def Inv (b : Nat) (o : Option Obj) (g : Gh) (w : World) : Prop := (b < w.heap.size ∧ (g.2 b ∨ ¬ Own g.1 b)) ∧ w.heap[b]? = o

theorem Inv.step {rs : Nat → Bool} {j b : Nat} {o : Option Obj} {g g' : Gh} {w w' : World} (hj : rs j = true) (hG : GR rs j g w g' w') (h : Inv b o g w) : Inv b o g' w' := by
  obtain ⟨⟨h1, h2⟩, h3⟩ := h
  obtain ⟨hF, hB⟩ := hG
  obtain ⟨h4, h5⟩ := hB hj
  refine ⟨⟨Nat.lt_of_lt_of_le h1 hF.size, ?_⟩, ?_⟩
  · rcases h2 with h2 | h2
    · exact .inl (h4 b h2)
    · exact .inr (hF.keep b h1 h2).2
  · rcases h2 with h2 | h2
    · rw [h5 b h2 h1]; exact h3
    · rw [(hF.keep b h1 h2).1]; exact h3

theorem GR.refl (rs : Nat → Bool) (j : Nat) (g : Gh) (w : World) : GR rs j g w g w := ⟨Fr.refl _ _, fun _ => ⟨fun _ h => h, fun _ _ _ => rfl⟩⟩

theorem wpAnyG_done {P : Program} {ops : Array Oper} {Q : Exit → Act → World → Prop} {Γ : Type} {G : Nat → Γ → World → Γ → World → Prop} {listed : Array Bool} {g : Γ} {a : Act} {w : World}
    (hr : Region.ready .any ops listed = []) (h : Q .normal a w) : ∀ fuel, wpAnyG P .any ops Q G fuel listed g a w
  | 0 => ⟨hr, h⟩
  | _ + 1 => ⟨fun _ => h, by rw [hr]; simp⟩

theorem aOp_bn {cx : Cx} {bn : List Nat} {l : LOp} (hq : quietOp l = true) {s : St} {K : V → St → Prop} (h : aOp cx l s K) : aOp { cx with bn := bn } l s K := by
  cases l <;> first | exact h | simp [quietOp] at hq

/-- One step of whichever effect comes next. -/
theorem alt_step {cx : Cx} (hcx : cx.ok P) (hfxe : cx.fx = fx) {ops : Array Oper} {rs : Nat → Bool} {Q : Exit → Act → World → Prop} {i : Nat} {o : Oper} {l0 op : LOp} {g : Option (Nat × Bool)} (ho : ops[i]? = some o)
    (hm : rl P o.op l0 = some op) (hg : gOk ops N o.guard = some g) (hd : dOk N o.dst = true) {bn : List Nat} {B : Nat → Prop} {ρ : Nat → Loc} {s : St} {a : Act} {w : World} {r : Bool} (hr : r = rs i) (hB : BI ρ B bn w)
    (hG : GoodAt ρ0 X w0 fx N ρ s a w) {K : St → Prop} {Z : Gh → Act → World → Prop} (h : aOper { cx with bn := if r then bn else [] } ⟨o.dst, op, g⟩ s K)
    (hZ : ∀ ρ' B' s' a' w', K s' → BI ρ' B' (if r then bn else []) w' → GoodAt ρ0 X w0 fx N ρ' s' a' w' → Z (ρ', B') a' w') :
    wpOp P ops Q i (fun a' w' => ∃ g', GR rs i (ρ, B) w g' w' ∧ Z g' a' w') a w := by
  obtain ⟨hpre, ⟨hrep, he⟩, hN, hdf⟩ := hG
  have hd' : ∀ n, o.dst = some n → n < N := fun n hn => by simpa [dOk, hn] using hd
  unfold wpOp
  simp only [ho]
  rcases guard_cases hN hg he h with ⟨hw, e', _, he', h'⟩ | ⟨hw, e', _, he', h'⟩
  · rw [if_pos hw]
    left
    have hcx' : Cx.ok { cx with bn := if r then bn else [] } P := hcx
    refine Oper.wp_mono ?_ (aOp_sound hcx' hm (s := { s with e := e' }) hrep he' (by rw [hfxe]; exact hpre.2) h')
    rintro a' w' ⟨val, rfl, x, s', ρ', hK, ⟨hk, hfx, hbn⟩, hf, hr', he2, hv⟩
    rw [hfxe] at hk hfx
    have hh : (s'.put o.dst x).h = s'.h := by cases o.dst <;> rfl
    have hgood : GoodAt ρ0 X w0 fx N ρ' (s'.put o.dst x) (a.put o.dst val) w' :=
      ⟨⟨⟨hpre.1.1.trans hf, fun k hk' => (hfx k hk').trans (hpre.1.2 k hk')⟩, by rw [hh]; exact hk⟩, ⟨by rw [hh]; exact hr', RepE_put (e := s'.e) he2 hv (fun n hn => by rw [hN]; exact hd' n hn) s' rfl⟩, by rw [size_put]; exact hN, by cases o.dst <;> exact hdf⟩
    cases r with
    | true =>
      simp only [if_true] at hbn hZ
      refine ⟨(ρ', B), ⟨hf, fun _ => ⟨fun _ h => h, fun b hb hlt => ?_⟩⟩, hZ ρ' B _ _ _ hK (fun b hb => ?_) hgood⟩
      · rcases (hB b hb).2 with ⟨k, hk1, hk2, hk3⟩ | h3
        · rw [← hk3]; exact (hbn k hk1 hk2).2
        · exact (hf.keep b hlt h3).1
      · refine ⟨Nat.lt_of_lt_of_le (hB b hb).1 hf.size, ?_⟩
        rcases (hB b hb).2 with ⟨k, hk1, hk2, hk3⟩ | h3
        · have h4 := (hbn k hk1 hk2).1
          exact .inl ⟨k, hk1, by rw [h4]; exact hk2, by rw [h4]; exact hk3⟩
        · exact .inr (hf.keep b (hB b hb).1 h3).2
    | false =>
      refine ⟨(ρ', fun _ => False), ⟨hf, fun h => by rw [← hr] at h; cases h⟩, hZ ρ' _ _ _ _ hK (fun b hb => hb.elim) hgood⟩
  · rw [if_neg (by rw [hw]; exact Bool.false_ne_true)]
    have hh : (St.put { s with e := e' } o.dst (.v (.tuple #[]))).h = s.h := by cases o.dst <;> rfl
    have hgood : GoodAt ρ0 X w0 fx N ρ (St.put { s with e := e' } o.dst (.v (.tuple #[]))) (a.put o.dst undef) w :=
      ⟨⟨hpre.1, by rw [hh]; exact hpre.2⟩, ⟨by rw [hh]; exact hrep, RepE_put (e := e') (x := .v (.tuple #[])) (val := undef) he' rfl (fun n hn => by rw [hN]; exact hd' n hn) _ rfl⟩, by rw [size_put]; exact hN, by cases o.dst <;> exact hdf⟩
    cases r with
    | true => exact ⟨(ρ, B), GR.refl _ _ _ _, hZ ρ B _ _ _ h' hB hgood⟩
    | false => exact ⟨(ρ, fun _ => False), ⟨Fr.refl _ _, fun h => by rw [← hr] at h; cases h⟩, hZ ρ _ _ _ _ h' (fun b hb => hb.elim) hgood⟩

theorem ev_envB {e e' : Env} (h : EnvB e e') (p : Operand) : ev e' p = ev e p ∨ ∃ b, ev e' p = V.b b := by
  cases p with
  | tmp t => exact h t
  | _ => exact .inl rfl

theorem rdB_of {op : LOp} {e : Env} {bn : List Nat} (h : isLoad op = false) : rdB op e bn = bn := by
  cases op <;> first | rfl | simp [isLoad] at h

/-- A quiet operation taken first. -/
theorem take_step {cx : Cx} {ops : Array Oper} {rs : Nat → Bool} (hs : Region.noSelect ops = true) {Q : Exit → Act → World → Prop} (hQp : ∀ c a w, ¬ Q (.panic c) a w) {i : Nat} {o : Oper} {l0 op : LOp} {g : Option (Nat × Bool)} (ho : ops[i]? = some o)
    (hm : rl P o.op l0 = some op) (hg : gOk ops N o.guard = some g) (hd : dOk N o.dst = true) {listed : Array Bool} {D : List Nat} (hok : takeOk ops rs listed i D op = true)
    {bn : List Nat} {B : Nat → Prop} {ρ : Nat → Loc} {s : St} {a : Act} {w : World} (hB : BI ρ B bn w)
    (hG : GoodAt ρ0 X w0 fx N ρ s a w) {K : St → Prop} {fuel : Nat} (h : aOper cx ⟨o.dst, op, g⟩ s K)
    (hZ : ∀ B' s' a', K s' → BI ρ B' (rdB op s.e bn) w → GoodAt ρ0 X w0 fx N ρ s' a' w → wpAnyG P .any ops Q (GR rs) fuel (listed.setIfInBounds i true) (ρ, B') a' w) :
    wpAnyG P .any ops Q (GR rs) (fuel + 1) listed (ρ, B) a w := by
  obtain ⟨hpre, ⟨hrep, he⟩, hN, hdf⟩ := hG
  have hd' : ∀ n, o.dst = some n → n < N := fun n hn => by simpa [dOk, hn] using hd
  simp only [takeOk, Bool.and_eq_true] at hok
  obtain ⟨⟨⟨hready, hfree⟩, hq⟩, hDl, hres⟩ := hok
  have hready' : i ∈ Region.ready .any ops listed := by simpa using hready
  have hfr := Region.free_spec (md := .any) ho hfree
  have hDc : ∀ j oj, j ∈ D → ops[j]? = some oj → ∃ e ∈ oj.after, Region.binds .any e = true ∧ (e.on = i ∨ e.on ∈ D) := by
    intro j oj hj hoj
    have := List.all_eq_true.1 hDl j hj
    simp only [hoj, Bool.and_eq_true] at this
    obtain ⟨e, he, hb⟩ := Array.any_eq_true'.1 this.2
    simp only [Bool.and_eq_true, Bool.or_eq_true, beq_iff_eq, List.contains_iff_mem] at hb
    exact ⟨e, he, hb.1, hb.2⟩
  have hDu : ∀ j, j ∈ D → listed.getD j false = false := by
    intro j hj
    have := List.all_eq_true.1 hDl j hj
    simp only [Bool.and_eq_true, Bool.not_eq_true'] at this
    exact this.1
  have hsel := Region.noSelect_spec hs
  have free : ∀ (v : Value) (B' : Nat → Prop), (YieldsIf P ops (fun _ => True) o v a) → wpAnyG P .any ops Q (GR rs) fuel (listed.setIfInBounds i true) (ρ, B') (a.put o.dst v) w → wpAnyG P .any ops Q (GR rs) (fuel + 1) listed (ρ, B') a w := by
    intro v B' hy hh
    exact wpAnyG_first (D := (· ∈ D)) ho hsel (fun c a w h => (hQp _ _ _ h).elim) hDc (Inv := fun _ _ => True) (fun g w _ => GR.refl _ _ _ _) fuel listed _ a w hfr hDu (fun _ _ _ _ _ _ _ _ _ _ _ _ => trivial) hready' (hy.imp (fun ⟨h1, h2⟩ => ⟨h1, fun w _ => h2 w trivial⟩) id) trivial hh
  rcases guard_cases hN hg he h with ⟨hw, e', hEB, he', h'⟩ | ⟨hw, e', _, he', h'⟩
  · obtain ⟨x, val, h1, h2, h3⟩ := quiet_at (s := { s with e := e' }) hq hm hrep he' h'
    have hh : (St.put { s with e := e' } o.dst x).h = s.h := by cases o.dst <;> rfl
    have hgood : GoodAt ρ0 X w0 fx N ρ (St.put { s with e := e' } o.dst x) (a.put o.dst val) w :=
      ⟨⟨hpre.1, by rw [hh]; exact hpre.2⟩, ⟨by rw [hh]; exact hrep, RepE_put (e := e') he' h2 (fun n hn => by rw [hN]; exact hd' n hn) _ rfl⟩, by rw [size_put]; exact hN, by cases o.dst <;> exact hdf⟩
    by_cases hL : isLoad op = true
    · have hres' : ∀ j, j ≠ i → j ∉ D → listed.getD j true = false → j < ops.size → rs j = true := by
        intro j hji hjD hjl hlt
        simp only [hL, Bool.not_true, Bool.false_or] at hres
        have := List.all_eq_true.1 hres j (by simpa using hlt)
        simp only [Bool.or_eq_true, beq_iff_eq, hji, false_or, List.contains_iff_mem, hjD, hjl, Bool.false_eq_true] at this
        exact this
      cases op with
      | load n p =>
        have hpv := ev_rep he' p
        cases hp : ev e' p with
        | ptr k ix f =>
          rw [hp] at hpv
          have hreal := hpv.1
          have hlt := hrep.lt k hreal
          have hrd : rdB (.load n p) s.e bn = k :: bn := by
            have : ev s.e p = .ptr k ix f := by
              rcases ev_envB hEB p with h4 | ⟨b, h4⟩
              · rw [← h4]; exact hp
              · rw [h4] at hp; cases hp
            simp only [rdB, this]
          have hB' : BI ρ (fun b => B b ∨ b = (ρ k).blk) (rdB (.load n p) s.e bn) w := by
            rw [hrd]
            rintro b (hb | rfl)
            · exact ⟨(hB b hb).1, (hB b hb).2.imp (fun ⟨k', hk, hk'⟩ => ⟨k', List.mem_cons_of_mem _ hk, hk'⟩) id⟩
            · exact ⟨hlt, .inl ⟨k, List.mem_cons_self, hreal, rfl⟩⟩
          refine wpAnyG_weak (g2 := (ρ, fun b => B b ∨ b = (ρ k).blk)) (fun j g' w' hj => ⟨hj.1, fun hr => ⟨fun b hb => (hj.2 hr).1 b (.inl hb), fun b hb => (hj.2 hr).2 b (.inl hb)⟩⟩) _ _ _ ?_
          refine wpAnyG_first (D := (· ∈ D)) ho hsel (fun c a w h => (hQp _ _ _ h).elim) hDc (Inv := Inv (ρ k).blk w.heap[(ρ k).blk]?) (fun g w _ => GR.refl _ _ _ _) fuel listed _ a w hfr hDu
            (fun j oj hoj hji hjD hjl g w g' w' hG hI => Inv.step (hres' j hji hjD hjl (Array.getElem?_eq_some_iff.1 hoj).1) hG hI) hready' ?_ ⟨⟨hlt, .inl (.inr rfl)⟩, rfl⟩ (hZ _ _ _ h1 hB' hgood)
          refine .inl ⟨hw, fun w' ⟨g, hI⟩ => h3 w' ?_⟩
          intro b hb
          rw [hp] at hb
          obtain ⟨_, rfl⟩ := hb
          exact fun _ => hI.2
        | rp sz els ix f =>
          have hrd : rdB (.load n p) s.e bn = bn := by
            have : ev s.e p = .rp sz els ix f := by
              rcases ev_envB hEB p with h4 | ⟨b, h4⟩
              · rw [← h4]; exact hp
              · rw [h4] at hp; cases hp
            simp only [rdB, this]
          refine wpAnyG_first (D := (· ∈ D)) ho hsel (fun c a w h => (hQp _ _ _ h).elim) hDc (Inv := fun g w' => ∀ b, b < w.heap.size → ¬ Own ρ b → (b < w'.heap.size ∧ ¬ Own g.1 b) ∧ w'.heap[b]? = w.heap[b]?) (fun g w _ => GR.refl _ _ _ _) fuel listed _ a w hfr hDu
            (fun j oj hoj hji hjD hjl g w1 g' w2 hG hI b hb1 hb2 => ?_) hready' ?_ (fun b hb1 hb2 => ⟨⟨hb1, hb2⟩, rfl⟩) (hZ _ _ _ h1 (by rw [hrd]; exact hB) hgood)
          · obtain ⟨⟨h4, h5⟩, h6⟩ := hI b hb1 hb2
            have h7 := hG.1.keep b h4 h5
            exact ⟨⟨Nat.lt_of_lt_of_le h4 hG.1.size, h7.2⟩, h7.1.trans h6⟩
          · refine .inl ⟨hw, fun w' ⟨g, hI⟩ => h3 w' ?_⟩
            intro b hb
            rw [hp] at hb
            exact fun _ => (hI b hb.1 hb.2).2
        | _ => exact absurd h' (by simp [aOp, hp, loadP])
      | _ => simp [isLoad] at hL
    · have hL' : isLoad op = false := by simpa using hL
      have hrun : ∀ w', (execOp a.eval o).run P w' = .ok (.value val) w' := fun w' => h3 w' (by cases op <;> first | trivial | simp [isLoad] at hL')
      refine free val B (.inl ⟨hw, fun w' _ => hrun w'⟩) (hZ B _ _ h1 (by rw [rdB_of hL']; exact hB) hgood)
  · have hh : (St.put { s with e := e' } o.dst (.v (.tuple #[]))).h = s.h := by cases o.dst <;> rfl
    have hgood : GoodAt ρ0 X w0 fx N ρ (St.put { s with e := e' } o.dst (.v (.tuple #[]))) (a.put o.dst undef) w :=
      ⟨⟨hpre.1, by rw [hh]; exact hpre.2⟩, ⟨by rw [hh]; exact hrep, RepE_put (e := e') (x := .v (.tuple #[])) (val := undef) he' rfl (fun n hn => by rw [hN]; exact hd' n hn) _ rfl⟩, by rw [size_put]; exact hN, by cases o.dst <;> exact hdf⟩
    have hB' : BI ρ B (rdB op s.e bn) w := fun b hb => ⟨(hB b hb).1, (hB b hb).2.imp (fun ⟨k, hk, hk'⟩ => ⟨k, by
      unfold rdB
      split
      · split
        · exact List.mem_cons_of_mem _ hk
        · exact hk
      · exact hk, hk'⟩) id⟩
    exact free undef B (.inr ⟨hw, rfl⟩) (hZ B _ _ h' hB' hgood)

theorem awP_sound {cx : Cx} (hcx : cx.ok P) (hfxe : cx.fx = fx) {ops : Array Oper} {rs : Nat → Bool} (hs : Region.noSelect ops = true) {Q : Exit → Act → World → Prop} (hQp : ∀ c a w, ¬ Q (.panic c) a w) {K : St → Prop}
    (hQ : ∀ s a w, K s → Good ρ0 X w0 fx N s a w → Q .normal a w) :
    ∀ (p0 p : LPlan) (listed : Array Bool) (fuel : Nat) (rem : Option (List Nat)), rlP P N ops rs p0 listed fuel rem = some p → ∀ (bn : List Nat) (B : Nat → Prop) (ρ : Nat → Loc) (s : St) (a : Act) (w : World),
      BI ρ B bn w → GoodAt ρ0 X w0 fx N ρ s a w → awP cx p bn K s →
      (rem = none → wpAnyG P .any ops Q (GR rs) fuel listed (ρ, B) a w) ∧
      (∀ l, rem = some l → ∀ i ∈ l, wpOp P ops Q i (fun a' w' => ∃ g', GR rs i (ρ, B) w g' w' ∧ wpAnyG P .any ops Q (GR rs) (fuel - 1) (listed.setIfInBounds i true) g' a' w') a w) := by
  intro p0
  induction p0 with
  | done =>
    intro p listed fuel rem hm bn B ρ s a w hB hG h
    cases rem with
    | some l => simp [rlP] at hm
    | none =>
      simp only [rlP] at hm
      split at hm
      · rename_i hr
        simp only [Option.some.injEq] at hm
        subst hm
        refine ⟨fun _ => wpAnyG_done (List.isEmpty_iff.1 hr) (hQ s a w h ⟨ρ, hG⟩) fuel, fun l hl => by cases hl⟩
      · cases hm
  | none =>
    intro p listed fuel rem hm bn B ρ s a w hB hG h
    cases rem with
    | none => simp [rlP] at hm
    | some l =>
      cases l with
      | nil => exact ⟨fun h => (by cases h), fun l hl i hi => (by cases hl; simp at hi)⟩
      | cons _ _ => simp [rlP] at hm
  | take i D l p ih =>
    intro p1 listed fuel rem hm bn B ρ s a w hB hG h
    cases rem with
    | some l => cases fuel <;> simp [rlP] at hm
    | none =>
      cases fuel with
      | zero => simp [rlP] at hm
      | succ fuel =>
        simp only [rlP] at hm
        split at hm
        · rename_i o ho
          split at hm
          · rename_i op g p' h1 h2 h3 h4
            split at hm
            · rename_i hok
              simp only [Option.some.injEq] at hm
              subst hm
              refine ⟨fun _ => ?_, fun l hl => by cases hl⟩
              refine take_step (cx := cx) (K := fun s' => awP cx p' (rdB op s.e bn) K s') hs hQp ho h1 h2 h3 hok hB hG h ?_
              intro B' s' a' hK hB' hG'
              exact (ih p' _ _ _ h4 _ _ _ _ _ _ hB' hG' hK).1 rfl
            · cases hm
          · cases hm
        · cases hm
  | alt i l r p q ihp ihq =>
    intro p1 listed fuel rem hm bn B ρ s a w hB hG h
    cases fuel with
    | zero => cases rem <;> simp [rlP] at hm
    | succ fuel =>
      simp only [rlP] at hm
      split at hm
      · rename_i j js o hrem ho
        split at hm
        · rename_i op g p' q' h1 h2 h3 h4 h5
          split at hm
          · rename_i hc
            obtain ⟨rfl, hr⟩ := hc
            simp only [Option.some.injEq] at hm
            subst hm
            have hall : ∀ i ∈ j :: js, wpOp P ops Q i (fun a' w' => ∃ g', GR rs i (ρ, B) w g' w' ∧ wpAnyG P .any ops Q (GR rs) fuel (listed.setIfInBounds i true) g' a' w') a w := by
              intro i hi
              rcases List.mem_cons.1 hi with rfl | hi
              · refine alt_step (K := fun s' => awP cx p' (if r then bn else []) K s') (Z := fun g' a' w' => wpAnyG P .any ops Q (GR rs) fuel (listed.setIfInBounds i true) g' a' w') hcx hfxe ho h1 h2 h3 hr hB hG h.1 ?_
                intro ρ' B' s' a' w' hK hB' hG'
                exact (ihp p' _ _ _ h4 _ _ _ _ _ _ hB' hG' hK).1 rfl
              · exact (ihq q' _ _ _ h5 _ _ _ _ _ _ hB hG h.2).2 js rfl i hi
            refine ⟨fun hn => ?_, fun l hl => ?_⟩
            · subst hn
              simp only [Option.getD_none] at hrem
              exact ⟨fun h0 => (by rw [hrem] at h0; cases h0), by rw [hrem]; exact hall⟩
            · subst hl
              simp only [Option.getD_some] at hrem
              subst hrem
              exact hall
          · cases hm
        · cases hm
      · cases hm

/-- The check of a region's plan. -/
def rlT (P : Program) (N : Nat) (ops : Array Oper) (p : LPlan) : Option LPlan :=
  if Region.noSelect ops then rlP P N ops (fun j => !(rsOf p).contains j) p (Array.replicate ops.size false) ops.size none else none

def NoPan (Q : Exit → Act → World → Prop) : Exit → Act → World → Prop
  | .panic _, _, _ => False
  | e, a, w => Q e a w

theorem tree_sound (hP : P.follows .mixedOrders = true) {cx : Cx} (hcx : cx.ok P) (hfxe : cx.fx = fx) {ops : Array Oper} {id : Nat} {Q : Exit → Act → World → Prop} {K : St → Prop} (hQ : ∀ s a w, K s → Good ρ0 X w0 fx N s a w → Q .normal a w)
    {p0 p : LPlan} {s : St} {a : Act} {w : World} (hm : rlT P N ops p0 = some p) (hg : Good ρ0 X w0 fx N s a w) (h : awP cx p [] K s) : (Code.region id ops true).wp P Q a w := by
  unfold rlT at hm
  split at hm
  · rename_i hs
    refine Code.wp_mono (Q := NoPan Q) (fun e a w he => ?_) ?_
    · cases e <;> first | exact he | exact he.elim
    · refine wp_region_any hP ?_
      obtain ⟨ρ, hG⟩ := Good.drew hg
      exact wpAny_of_G _ _ _ _ _ ((awP_sound (Q := NoPan Q) hcx hfxe hs (fun _ _ _ h => h) (fun s a w hK hg => hQ s a w hK hg) p0 p _ _ _ hm [] (fun _ => False) ρ s a _ (fun b hb => hb.elim) hG h).1 rfl)
  · cases hm
end
end Go.Fx
