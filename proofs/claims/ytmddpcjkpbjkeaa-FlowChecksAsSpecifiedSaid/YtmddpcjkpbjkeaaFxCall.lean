import Derived.Test.YtmddpcjkpbjkeaaFxHeap
set_option linter.unusedVariables false
set_option linter.unusedSimpArgs false
set_option linter.unusedSectionVars false
namespace Go.Fx
open Go.RowKit

/-- A FUNCTION's CONTRACT: called with values that stand for 'args', in any world that stands for the blocks 'h0', it returns; what it returns and what it leaves stand for what 'R' says; of the blocks only those of 'mv' move. -/
def Fn (P : Program) (f : FuncId) (args : List V) (h0 : List Blk) (mv : List Nat) (R : V → List Blk → Prop) : Prop :=
  ∀ (ρ : Nat → Loc) (X : Nat → Prop) (w : World) (vals : List Value), Rep ρ X w h0 → RepL ρ X w args vals →
    Calls P f vals.toArray w fun e w' => ∃ val r h' ρ', e = .returned val ∧ (R r h' ∧ h0.length ≤ h'.length) ∧ Fr ρ w ρ' w' ∧ Rep ρ' X w' h' ∧ RepV ρ' X w' r val ∧
      ∀ k, k < h0.length → k ∉ mv → ρ' k = ρ k

section
variable {ρ : Nat → Loc} {X : Nat → Prop} {w : World}

theorem pos_some {ι : List Nat} {k j : Nat} : pos ι k = some j → ι[j]? = some k := by
  induction ι generalizing j with
  | nil => intro h; simp [pos] at h
  | cons x r ih =>
    intro h
    simp only [pos] at h
    split at h
    · rename_i hk
      simp only [Option.some.injEq] at h
      subst h; subst hk
      rfl
    · cases hp : pos r k with
      | none => simp [hp] at h
      | some m =>
        simp [hp] at h
        subst h
        simpa using ih hp
theorem pos_none {ι : List Nat} {k : Nat} : pos ι k = none → k ∉ ι := by
  induction ι with
  | nil => intro _; simp
  | cons x r ih =>
    intro h
    simp only [pos] at h
    split at h
    · cases h
    · rename_i hk
      cases hp : pos r k with
      | none => simp [hk, ih hp]
      | some m => simp [hp] at h

/-- Where the callee's blocks lie. -/
def calleeLoc (ρ : Nat → Loc) (ι : List Nat) (j : Nat) : Loc :=
  match ι[j]? with
  | some k => ρ k
  | none => ⟨false, 0, 0, 0, 0⟩

/-- What the callee must not touch: what the caller must not, and the caller's other blocks. -/
def calleeX (ρ : Nat → Loc) (X : Nat → Prop) (ι : List Nat) (b : Nat) : Prop := X b ∨ (Own ρ b ∧ ¬ Own (calleeLoc ρ ι) b)

theorem callee_own {ι : List Nat} {b : Nat} (h : Own (calleeLoc ρ ι) b) : Own ρ b := by
  obtain ⟨j, h1, h2⟩ := h
  unfold calleeLoc at h1 h2
  split at h1
  · rename_i k hk
    exact ⟨k, h1, by simpa [hk] using h2⟩
  · cases h1

theorem callee_at {ι : List Nat} {j k : Nat} (h : ι[j]? = some k) : calleeLoc ρ ι j = ρ k := by simp [calleeLoc, h]

theorem callee_sta {ι : List Nat} {b : Nat} (h : Sta ρ X w b) : Sta (calleeLoc ρ ι) (calleeX ρ X ι) w b :=
  ⟨h.1, fun ho => h.2.1 (callee_own ho), fun hx => hx.elim h.2.2 (fun hy => h.2.1 hy.1)⟩
theorem callee_len {ι : List Nat} {b : Nat} (h : Len ρ w b) : Len (calleeLoc ρ ι) w b := ⟨h.1, fun ho => h.2 (callee_own ho)⟩
theorem callee_sta' {ι : List Nat} : ∀ b, Sta ρ X w b → Sta (calleeLoc ρ ι) (calleeX ρ X ι) w b ∧ w.heap[b]? = w.heap[b]? := fun _ h => ⟨callee_sta h, rfl⟩

/-- An own block that isn't handed on is no own block of the callee's. -/
theorem callee_not_own {h : List Blk} (hr : Rep ρ X w h) {ι : List Nat} {k : Nat} (hk : k ∉ ι) (hreal : (ρ k).real = true) : ¬ Own (calleeLoc ρ ι) (ρ k).blk := by
  rintro ⟨j, h1, h2⟩
  unfold calleeLoc at h1 h2
  split at h1
  · rename_i m hm
    simp only [hm] at h2
    have hmem : m ∈ ι := List.mem_of_getElem? hm
    have hne : m ≠ k := fun e => hk (e ▸ hmem)
    exact hr.inj m k hne h1 hreal h2
  · cases h1

theorem RepEls_view {S : Nat → Prop} {sz b off i n : Nat} {els : List (List V)} (h : RepEls S w sz b off els) : RepEls S w sz b (off + i * sz) ((els.drop i).take n) :=
  RepEls_mk fun j e he => by
    have he' : els[i + j]? = some e := by
      rw [List.getElem?_take] at he
      split at he
      · simpa using he
      · cases he
    have := RepEls_get h he'
    rw [Nat.add_mul] at this
    rw [Nat.add_assoc]
    exact this

mutual
theorem lend_rep {h : List Blk} (hr : Rep ρ X w h) {ι : List Nat} : ∀ (x : V) (val : Value), lendOk h (pos ι) x → RepV ρ X w x val → RepV (calleeLoc ρ ι) (calleeX ρ X ι) w (lend h (pos ι) x) val
  | .any, _, _, _ => trivial
  | .v _, _, _, hx => hx
  | .ro sz els, val, _, hx => RepD_mono callee_sta' (.ro sz els) val hx
  | .bro sz els, val, _, hx => by
    obtain ⟨a, len, cap, h1, h2, h3, h4, h5⟩ := hx
    refine ⟨a, len, cap, h1, h2, h3, h4, h5.imp id ?_⟩
    rintro ⟨b, off, h6, h7, h8⟩
    exact ⟨b, off, h6, callee_len h7, RepEls_mono callee_sta' sz b rfl off els h8⟩
  | .full sz els, val, _, hx => by
    obtain ⟨a, len, h1, h2, h4, h5⟩ := hx
    refine ⟨a, len, h1, h2, h4, h5.imp id ?_⟩
    rintro ⟨b, off, h6, h7, h8⟩
    exact ⟨b, off, h6, callee_len h7, RepEls_mono callee_sta' sz b rfl off els h8⟩
  | .rp sz els i f, val, _, hx => by
    obtain ⟨b, off, h6, h7, h8⟩ := hx
    exact ⟨b, off, h6, callee_len h7, RepEls_mono callee_sta' sz b rfl off els h8⟩
  | .sl k i n, val, hok, hx => by
    cases hp : pos ι k with
    | some j =>
      simp only [lend, hp]
      have hj := callee_at (ρ := ρ) (pos_some hp)
      obtain ⟨cap, h1, h2, h3⟩ := hx
      refine ⟨cap, h1, h2, ?_⟩
      rw [hj]
      exact h3
    | none =>
      simp only [lend, hp]
      simp only [lendOk, hp] at hok
      have hk := pos_none hp
      cases hb : h[k]? with
      | none => simp only [blk, List.getD_eq_getElem?_getD, hb]; exact trivial
      | some B =>
        simp only [blk, List.getD_eq_getElem?_getD, hb] at hok ⊢
        have hB := hr.blk k B hb
        cases B with
        | arr sz els =>
          obtain ⟨⟨hsz, hpos⟩, hor⟩ := hB
          have hok' : i + n ≤ els.length := hok
          have hlen : ((els.drop i).take n).length = n := by simp; omega
          obtain ⟨cap, h1, h2, h3⟩ := hx
          show RepV _ _ w (.bro sz _) val
          rcases h3 with ⟨rfl, a, rfl⟩ | ⟨hreal, rfl, hroom⟩
          · have hn : n = 0 := by omega
            subst hn
            exact ⟨a, 0, 0, rfl, by simp, Nat.le_refl _, Nat.zero_le _, .inl (by simp)⟩
          · rcases hor with ⟨h4, _⟩ | ⟨_, c, T, hh, hc, hrm, hels⟩
            · rw [h4] at hreal; cases hreal
            · refine ⟨_, n, cap, rfl, hlen.symm, h1, h2, .inr ⟨_, _, rfl, ⟨hr.lt k hreal, callee_not_own hr hk hreal⟩, ?_⟩⟩
              rw [hsz]
              exact RepEls_mono callee_sta' sz _ rfl _ _ (RepEls_view hels)
        | dead => trivial
        | var _ => trivial
        | arv _ _ => trivial
        | map _ _ => trivial
        | it _ _ _ _ => trivial
  | .ptr k i f, val, _, hx => by
    cases hp : pos ι k with
    | some j =>
      simp only [lend, hp]
      have hj := callee_at (ρ := ρ) (pos_some hp)
      simp only [RepV]
      rw [hj]
      exact hx
    | none => simp only [lend, hp]; trivial
  | .agg cs, val, hok, hx => by
    obtain ⟨arr, h1, h2⟩ := hx
    exact ⟨arr, h1, lends_rep hr cs arr.toList hok h2⟩
  | .tup cs, val, hok, hx => by
    obtain ⟨arr, h1, h2⟩ := hx
    exact ⟨arr, h1, lends_rep hr cs arr.toList hok h2⟩
  | .clo f cs, val, hok, hx => by
    obtain ⟨arr, h1, h2⟩ := hx
    exact ⟨arr, h1, lends_rep hr cs arr.toList hok h2⟩
  | .mp k, val, _, hx => by
    cases hp : pos ι k with
    | some j =>
      simp only [lend, hp]
      have hj := callee_at (ρ := ρ) (pos_some hp)
      simp only [RepV]
      rw [hj]
      exact hx
    | none => simp only [lend, hp]; trivial
  | .itr _, _, _, hx => hx.elim
theorem lends_rep {h : List Blk} (hr : Rep ρ X w h) {ι : List Nat} : ∀ (xs : List V) (vs : List Value), lendsOk h (pos ι) xs → RepL ρ X w xs vs → RepL (calleeLoc ρ ι) (calleeX ρ X ι) w (lends h (pos ι) xs) vs
  | [], [], _, _ => trivial
  | x :: r, u :: us, hok, hx => ⟨lend_rep hr x u hok.1 hx.1, lends_rep hr r us hok.2 hx.2⟩
  | [], _ :: _, _, hx => hx.elim
  | _ :: _, [], _, hx => hx.elim
end

theorem wkB_rep {x : V} {s : Nat} {e : List (List V)} {val : Value} (hk : wkB x s e) (hx : RepV ρ X w x val) : RepV ρ X w (.bro s e) val := by
  unfold wkB at hk
  split at hk
  · obtain ⟨rfl, rfl⟩ := hk; exact hx
  · obtain ⟨rfl, rfl⟩ := hk
    obtain ⟨a, len, cap, h1, h2, h3, h4, h5⟩ := hx
    exact ⟨a, len, cap, h1, h2, h3, h4, h5.imp id fun ⟨b, off, h6, h7, h8⟩ => ⟨b, off, h6, ⟨h7.1, h7.2.1⟩, h8⟩⟩
  · obtain ⟨rfl, rfl⟩ := hk
    obtain ⟨a, len, h1, h2, h4, h5⟩ := hx
    exact ⟨a, len, len, h1, h2, Nat.le_refl _, h4, h5⟩
  · subst hk
    exact ⟨none, 0, 0, hx, rfl, Nat.le_refl _, Nat.zero_le _, .inl rfl⟩
  · exact hk.elim
theorem wkR_rep {x : V} {s : Nat} {e : List (List V)} {val : Value} (hk : wkR x s e) (hx : RepV ρ X w x val) : RepV ρ X w (.ro s e) val := by
  unfold wkR at hk
  split at hk
  · obtain ⟨rfl, rfl⟩ := hk; exact hx
  · subst hk
    exact ⟨none, 0, 0, hx, rfl, Nat.le_refl _, Nat.zero_le _, .inl rfl⟩
  · exact hk.elim

mutual
theorem wk_rep : ∀ (y x : V) (val : Value), wk y x → RepV ρ X w x val → RepV ρ X w y val
  | .any, _, _, _, _ => trivial
  | .bro _ _, _, _, hk, hx => wkB_rep (by simpa only [wk] using hk) hx
  | .ro _ _, _, _, hk, hx => wkR_rep (by simpa only [wk] using hk) hx
  | .agg ys, .agg xs, _, hk, ⟨arr, h1, h2⟩ => ⟨arr, h1, wkL_rep ys xs _ (by simpa only [wk] using hk) h2⟩
  | .tup ys, .tup xs, _, hk, ⟨arr, h1, h2⟩ => ⟨arr, h1, wkL_rep ys xs _ (by simpa only [wk] using hk) h2⟩
  | .clo f ys, .clo g xs, _, hk, ⟨arr, h1, h2⟩ => by
    simp only [wk] at hk
    obtain ⟨rfl, hk⟩ := hk
    exact ⟨arr, h1, wkL_rep ys xs _ hk h2⟩
  | .v y, x, _, hk, hx => by simp only [wk] at hk; subst hk; exact hx
  | .full _ _, x, _, hk, hx => by simp only [wk] at hk; subst hk; exact hx
  | .sl _ _ _, x, _, hk, hx => by simp only [wk] at hk; subst hk; exact hx
  | .ptr _ _ _, x, _, hk, hx => by simp only [wk] at hk; subst hk; exact hx
  | .rp _ _ _ _, x, _, hk, hx => by simp only [wk] at hk; subst hk; exact hx
  | .mp _, x, _, hk, hx => by simp only [wk] at hk; subst hk; exact hx
  | .itr _, x, _, hk, hx => by simp only [wk] at hk; subst hk; exact hx
  | .agg _, .any, _, hk, _ | .agg _, .v _, _, hk, _ | .agg _, .ro _ _, _, hk, _ | .agg _, .bro _ _, _, hk, _ | .agg _, .full _ _, _, hk, _ | .agg _, .sl _ _ _, _, hk, _ | .agg _, .ptr _ _ _, _, hk, _
  | .agg _, .rp _ _ _ _, _, hk, _ | .agg _, .tup _, _, hk, _ | .agg _, .clo _ _, _, hk, _ | .agg _, .mp _, _, hk, _ | .agg _, .itr _, _, hk, _ => by simp only [wk] at hk
  | .tup _, .any, _, hk, _ | .tup _, .v _, _, hk, _ | .tup _, .ro _ _, _, hk, _ | .tup _, .bro _ _, _, hk, _ | .tup _, .full _ _, _, hk, _ | .tup _, .sl _ _ _, _, hk, _ | .tup _, .ptr _ _ _, _, hk, _
  | .tup _, .rp _ _ _ _, _, hk, _ | .tup _, .agg _, _, hk, _ | .tup _, .clo _ _, _, hk, _ | .tup _, .mp _, _, hk, _ | .tup _, .itr _, _, hk, _ => by simp only [wk] at hk
  | .clo _ _, .any, _, hk, _ | .clo _ _, .v _, _, hk, _ | .clo _ _, .ro _ _, _, hk, _ | .clo _ _, .bro _ _, _, hk, _ | .clo _ _, .full _ _, _, hk, _ | .clo _ _, .sl _ _ _, _, hk, _ | .clo _ _, .ptr _ _ _, _, hk, _
  | .clo _ _, .rp _ _ _ _, _, hk, _ | .clo _ _, .agg _, _, hk, _ | .clo _ _, .tup _, _, hk, _ | .clo _ _, .mp _, _, hk, _ | .clo _ _, .itr _, _, hk, _ => by simp only [wk] at hk
theorem wkL_rep : ∀ (ys xs : List V) (vs : List Value), wkL ys xs → RepL ρ X w xs vs → RepL ρ X w ys vs
  | [], [], _, _, hx => hx
  | y :: ys, x :: xs, u :: us, hk, hx => by simp only [wkL] at hk; exact ⟨wk_rep y x u hk.1 hx.1, wkL_rep ys xs us hk.2 hx.2⟩
  | _ :: _, _ :: _, [], _, hx => hx.elim
  | [], _ :: _, _, hk, _ => by simp only [wkL] at hk
  | _ :: _, [], _, hk, _ => by simp only [wkL] at hk
end

mutual
theorem ren_rep {ρ1 ρ2 : Nat → Loc} {X1 X2 : Nat → Prop} {g : Nat → Option Nat} (hS : ∀ b, Sta ρ1 X1 w b → Sta ρ2 X2 w b) (hg : ∀ k j, g k = some j → (ρ1 k).real = true → ρ2 j = ρ1 k) :
    ∀ (x : V) (val : Value), RepV ρ1 X1 w x val → RepV ρ2 X2 w (ren g x) val
  | .any, _, _ => trivial
  | .v _, _, hx => hx
  | .ro sz els, val, hx => RepD_mono (fun b hb => ⟨hS b hb, rfl⟩) (.ro sz els) val hx
  | .bro _ _, _, _ | .full _ _, _, _ | .rp _ _ _ _, _, _ | .itr _, _, _ => trivial
  | .sl k i n, val, hx => by
    simp only [ren]
    split
    · rename_i j hj
      obtain ⟨cap, h1, h2, h3⟩ := hx
      refine ⟨cap, h1, h2, h3.imp id ?_⟩
      rintro ⟨h4, h5⟩
      rw [hg k j hj h4]
      exact ⟨h4, h5⟩
    · trivial
  | .ptr k i f, val, hx => by
    simp only [ren]
    split
    · rename_i j hj
      obtain ⟨h4, h5⟩ := hx
      simp only [RepV]
      rw [hg k j hj h4]
      exact ⟨h4, h5⟩
    · trivial
  | .mp k, val, hx => by
    simp only [ren]
    split
    · rename_i j hj
      obtain ⟨h4, h5⟩ := hx
      simp only [RepV]
      rw [hg k j hj h4]
      exact ⟨h4, h5⟩
    · trivial
  | .agg cs, val, hx => by
    obtain ⟨arr, h1, h2⟩ := hx
    exact ⟨arr, h1, rens_rep hS hg cs _ h2⟩
  | .tup cs, val, hx => by
    obtain ⟨arr, h1, h2⟩ := hx
    exact ⟨arr, h1, rens_rep hS hg cs _ h2⟩
  | .clo f cs, val, hx => by
    obtain ⟨arr, h1, h2⟩ := hx
    exact ⟨arr, h1, rens_rep hS hg cs _ h2⟩
theorem rens_rep {ρ1 ρ2 : Nat → Loc} {X1 X2 : Nat → Prop} {g : Nat → Option Nat} (hS : ∀ b, Sta ρ1 X1 w b → Sta ρ2 X2 w b) (hg : ∀ k j, g k = some j → (ρ1 k).real = true → ρ2 j = ρ1 k) :
    ∀ (xs : List V) (vs : List Value), RepL ρ1 X1 w xs vs → RepL ρ2 X2 w (rens g xs) vs
  | [], [], _ => trivial
  | x :: r, u :: us, hx => ⟨ren_rep hS hg x u hx.1, rens_rep hS hg r us hx.2⟩
  | [], _ :: _, hx => hx.elim
  | _ :: _, [], hx => hx.elim
end

theorem rens_map (g : Nat → Option Nat) : ∀ xs : List V, rens g xs = xs.map (ren g)
  | [] => rfl
  | x :: r => by simp [rens, rens_map g r]
theorem rens_len (g : Nat → Option Nat) (xs : List V) : (rens g xs).length = xs.length := by simp [rens_map]

theorem renB_rep {ρ1 ρ2 : Nat → Loc} {X1 X2 : Nat → Prop} {g : Nat → Option Nat} (hS : ∀ b, Sta ρ1 X1 w b → Sta ρ2 X2 w b) (hg : ∀ k j, g k = some j → (ρ1 k).real = true → ρ2 j = ρ1 k)
    {k j : Nat} (hkj : ρ2 j = ρ1 k) {B : Blk} (hB : RepB ρ1 X1 w k B) : RepB ρ2 X2 w j (renB g B) := by
  cases B with
  | dead => simp only [renB, RepB] at hB ⊢; rw [hkj]; exact hB
  | arr sz els =>
    simp only [renB, RepB] at hB ⊢
    rw [hkj]
    refine ⟨hB.1, hB.2.imp id ?_⟩
    rintro ⟨h1, c, T, h2, h3, h4, h5⟩
    exact ⟨h1, c, T, h2, h3, h4, RepEls_mono (fun b hb => ⟨hS b hb, rfl⟩) sz _ rfl _ _ h5⟩
  | var cs =>
    simp only [renB, RepB] at hB ⊢
    rw [hkj]
    obtain ⟨h1, c, T, h2, h3⟩ := hB
    exact ⟨h1, c, T, h2, rens_rep hS hg _ _ h3⟩
  | arv sz els =>
    simp only [renB, RepB] at hB ⊢
    rw [hkj]
    obtain ⟨h0, h1, c, T, h2, h3, h4, h5⟩ := hB
    refine ⟨h0, h1, c, T, h2, h3, by simpa using h4, fun i e he => ?_⟩
    simp only [List.getElem?_map, Option.map_eq_some_iff] at he
    obtain ⟨e0, he0, rfl⟩ := he
    refine ⟨by rw [rens_len]; exact (h5 i e0 he0).1, fun f x hx => ?_⟩
    simp only [rens_map, List.getElem?_map, Option.map_eq_some_iff] at hx
    obtain ⟨x0, hx0, rfl⟩ := hx
    obtain ⟨u, h6, h7⟩ := (h5 i e0 he0).2 f x0 hx0
    exact ⟨u, h6, ren_rep hS hg _ _ h7⟩
  | map es cl =>
    simp only [renB, RepB] at hB ⊢
    rw [hkj]
    obtain ⟨h1, arr, h2, h3, h4⟩ := hB
    refine ⟨h1, arr, h2, by rw [h3]; simp, ?_⟩
    rw [show (List.map (fun e : Value × V × Nat => (e.1, ren g e.2.1, e.2.2)) es).map (·.2.1) = rens g (es.map (·.2.1)) by rw [rens_map]; simp]
    exact rens_rep hS hg _ _ h4
  | it m s sn l =>
    simp only [renB, RepB] at hB ⊢
    rw [hkj]
    obtain ⟨h1, x, h2, h3⟩ := hB
    exact ⟨h1, x, h2, ren_rep hS hg _ _ h3⟩

theorem pos_of_get {ι : List Nat} (hn : ι.Nodup) {j k : Nat} (h : ι[j]? = some k) : pos ι k = some j := by
  induction ι generalizing j with
  | nil => simp at h
  | cons x r ih =>
    cases j with
    | zero => simp at h; subst h; simp [pos]
    | succ j =>
      have h' : r[j]? = some k := by simpa using h
      have hne : k ≠ x := by
        rintro rfl
        exact (List.nodup_cons.1 hn).1 (List.mem_of_getElem? h')
      simp [pos, hne, ih (List.nodup_cons.1 hn).2 h']

theorem callee_real {ι : List Nat} {j : Nat} (h : (calleeLoc ρ ι j).real = true) : ∃ k, ι[j]? = some k ∧ calleeLoc ρ ι j = ρ k := by
  cases hk : ι[j]? with
  | none => simp [calleeLoc, hk] at h
  | some k => exact ⟨k, rfl, callee_at hk⟩

theorem callee_rep {h : List Blk} (hr : Rep ρ X w h) {ι : List Nat} (hn : ι.Nodup) (hlt : ∀ k ∈ ι, k < h.length) :
    Rep (calleeLoc ρ ι) (calleeX ρ X ι) w (ι.map fun k => renB (pos ι) (blk h k)) := by
  refine ⟨?_, ?_, ?_, ?_, ?_, ?_⟩
  · intro i j hij hi hj
    obtain ⟨a, ha, ea⟩ := callee_real hi
    obtain ⟨c, hc, ec⟩ := callee_real hj
    rw [ea] at hi ⊢
    rw [ec] at hj ⊢
    refine hr.inj a c (fun e => hij ?_) hi hj
    subst e
    have h1 := pos_of_get hn ha
    have h2 := pos_of_get hn hc
    rw [h1] at h2
    simpa using h2
  · intro k hk
    have : ι[k]? = none := by simpa using hk
    simp [calleeLoc, this]
  · intro j B hB
    simp only [List.getElem?_map, Option.map_eq_some_iff] at hB
    obtain ⟨k, hk, rfl⟩ := hB
    have hkl := hlt k (List.mem_of_getElem? hk)
    have hb : h[k]? = some (blk h k) := by simp [blk, List.getD_eq_getElem?_getD, List.getElem?_eq_getElem hkl]
    exact renB_rep (fun b hb => callee_sta hb) (fun k' j' hp _ => callee_at (pos_some hp)) (callee_at hk) (hr.blk k _ hb)
  · rintro b ho (hx | ⟨_, hx⟩)
    · exact hr.disj b (callee_own ho) hx
    · exact hx ho
  · intro j hj
    unfold calleeLoc at hj ⊢
    split at hj
    · exact hr.lt _ hj
    · cases hj
  · rintro b (hx | ⟨⟨k, h1, h2⟩, _⟩)
    · exact hr.xlt b hx
    · have := hr.lt k h1
      omega

theorem setAll_len : ∀ (ι : List Nat) (bs h : List Blk), ι.length ≤ bs.length → (setAll ι bs h).length = h.length + (bs.length - ι.length)
  | [], bs, h, _ => by simp [setAll]
  | k :: ι, b :: bs, h, hl => by
    rw [setAll, setAll_len ι bs _ (by simpa using hl)]
    simp
  | _ :: _, [], _, hl => by simp at hl

theorem setAll_get : ∀ (ι : List Nat) (bs h : List Blk), ι.Nodup → (∀ k ∈ ι, k < h.length) → ι.length ≤ bs.length → ∀ k, (setAll ι bs h)[k]? = match pos ι k with
    | some j => bs[j]?
    | none => if k < h.length then h[k]? else bs[ι.length + (k - h.length)]?
  | [], bs, h, _, _, _, k => by
    simp only [setAll, pos]
    split
    · rw [List.getElem?_append_left (by assumption)]
    · rw [List.getElem?_append_right (by omega)]
      simp
  | x :: ι, b :: bs, h, hn, hlt, hl, k => by
    rw [setAll, setAll_get ι bs _ (List.nodup_cons.1 hn).2 (fun k hk => by simpa using hlt k (by simp [hk])) (by simpa using hl)]
    simp only [pos]
    by_cases hk : k = x
    · subst hk
      have hp : pos ι k = none := by
        cases hp : pos ι k with
        | none => rfl
        | some j => exact absurd (List.mem_of_getElem? (pos_some hp)) (List.nodup_cons.1 hn).1
      have hkl := hlt k (by simp)
      simp [hp, hkl]
    · simp only [hk, if_false]
      cases hp : pos ι k with
      | some j => simp
      | none =>
        simp only [List.length_set, Option.map_none]
        split
        · rw [List.getElem?_set_ne (Ne.symm hk)]
        · simp only [List.length_cons]
          rw [show ι.length + 1 + (k - h.length) = (ι.length + (k - h.length)) + 1 by omega]
          simp
  | _ :: _, [], _, _, _, hl, _ => by simp at hl

/-- Where the caller's blocks lie when the call is over. -/
def afterLoc (ρ ρc : Nat → Loc) (ι : List Nat) (n : Nat) (k : Nat) : Loc :=
  match pos ι k with
  | some j => ρc j
  | none => if k < n then ρ k else ρc (ι.length + (k - n))

theorem back_loc {ρc : Nat → Loc} {ι : List Nat} {n : Nat} (hn : ι.Nodup) (hlt : ∀ k ∈ ι, k < n) {j k : Nat} (h : back ι n j = some k) : afterLoc ρ ρc ι n k = ρc j := by
  unfold back at h
  split at h
  · rename_i m hm
    simp only [Option.some.injEq] at h
    subst h
    simp [afterLoc, pos_of_get hn hm]
  · rename_i hj
    simp only [Option.some.injEq] at h
    subst h
    have hp : pos ι (n + (j - ι.length)) = none := by
      cases hp : pos ι (n + (j - ι.length)) with
      | none => rfl
      | some i =>
        have := hlt _ (List.mem_of_getElem? (pos_some hp))
        omega
    have hjl : ι.length ≤ j := by simpa using hj
    simp only [afterLoc, hp]
    rw [if_neg (by omega)]
    congr 1
    omega

theorem after_own {ρc : Nat → Loc} {h : List Blk} (hr : Rep ρ X w h) {ι : List Nat} {b : Nat} (ho : Own (afterLoc ρ ρc ι h.length) b) :
    Own ρc b ∨ (Own ρ b ∧ ¬ Own (calleeLoc ρ ι) b) := by
  obtain ⟨k, h1, h2⟩ := ho
  unfold afterLoc at h1 h2
  split at h1
  · rename_i j hj
    simp only [hj] at h2
    exact .inl ⟨j, h1, h2⟩
  · rename_i hp
    simp only [hp] at h2
    split at h1
    · rename_i hk
      rw [if_pos hk] at h2
      exact .inr ⟨⟨k, h1, h2⟩, h2 ▸ callee_not_own hr (pos_none hp) h1⟩
    · rename_i hk
      rw [if_neg hk] at h2
      exact .inl ⟨_, h1, h2⟩

theorem after_sta {ρc : Nat → Loc} {w' : World} {h : List Blk} (hr : Rep ρ X w h) {ι : List Nat} (b : Nat) (hb : Sta ρc (calleeX ρ X ι) w' b) : Sta (afterLoc ρ ρc ι h.length) X w' b :=
  ⟨hb.1, fun ho => (after_own hr ho).elim hb.2.1 (fun h' => hb.2.2 (.inr h')), fun hx => hb.2.2 (.inl hx)⟩

theorem after_fr {ρc : Nat → Loc} {w' : World} {h : List Blk} (hr : Rep ρ X w h) {ι : List Nat} (hf : Fr (calleeLoc ρ ι) w ρc w') : Fr ρ w (afterLoc ρ ρc ι h.length) w' :=
  ⟨hf.os, hf.tape, hf.output, hf.size, fun b hb ho => by
    have h1 := hf.keep b hb (fun h => ho (callee_own h))
    exact ⟨h1.1, fun h2 => (after_own hr h2).elim h1.2 (fun h3 => ho h3.1)⟩⟩

theorem after_rep {ρc : Nat → Loc} {w' : World} {h h' : List Blk} (hr : Rep ρ X w h) {ι : List Nat} (hn : ι.Nodup) (hlt : ∀ k ∈ ι, k < h.length) (hl : ι.length ≤ h'.length) {M : List Nat}
    (hf : Fr (calleeLoc ρ ι) w ρc w') (hc : Rep ρc (calleeX ρ X ι) w' h') (hag : ∀ k, k ∉ M → (ρ k).real = true → afterLoc ρ ρc ι h.length k = ρ k) :
    Rep (afterLoc ρ ρc ι h.length) X w' (setAll ι (h'.map (renB (back ι h.length))) (h.map (killB M))) := by
  have hfr := after_fr hr hf
  have hlt' : ∀ k ∈ ι, k < (h.map (killB M)).length := fun k hk => by simpa using hlt k hk
  refine ⟨?_, ?_, ?_, ?_, ?_, ?_⟩
  · intro i j hij hi hj he
    -- each is the callee's or one of the caller's other blocks
    have key : ∀ k, (afterLoc ρ ρc ι h.length k).real = true → (∃ m, afterLoc ρ ρc ι h.length k = ρc m ∧ (ρc m).real = true ∧ (pos ι k = some m ∨ (pos ι k = none ∧ h.length ≤ k ∧ m = ι.length + (k - h.length)))) ∨
        (afterLoc ρ ρc ι h.length k = ρ k ∧ (ρ k).real = true ∧ k ∉ ι) := by
      intro k hk
      cases hp : pos ι k with
      | some m => exact .inl ⟨m, by simp [afterLoc, hp], by simpa [afterLoc, hp] using hk, .inl rfl⟩
      | none =>
        have hni := pos_none hp
        by_cases h1 : k < h.length
        · exact .inr ⟨by simp [afterLoc, hp, h1], by simpa [afterLoc, hp, h1] using hk, hni⟩
        · exact .inl ⟨ι.length + (k - h.length), by simp [afterLoc, hp, h1], by simpa [afterLoc, hp, h1] using hk, .inr ⟨rfl, by omega, rfl⟩⟩
    rcases key i hi with ⟨m, e1, r1, c1⟩ | ⟨e1, r1, n1⟩ <;> rcases key j hj with ⟨m', e2, r2, c2⟩ | ⟨e2, r2, n2⟩
    · rw [e1, e2] at he
      have hmm : m = m' := by
        rcases Nat.lt_or_ge m m' with h | h
        · exact absurd he (hc.inj m m' (by omega) r1 r2)
        · rcases Nat.lt_or_ge m' m with h' | h'
          · exact absurd he (hc.inj m m' (by omega) r1 r2)
          · omega
      subst hmm
      rcases c1 with c1 | ⟨c1, h1, c3⟩ <;> rcases c2 with c2 | ⟨c2, h2, c4⟩
      · have := pos_some c1
        rw [pos_some c2] at this
        simp only [Option.some.injEq] at this
        exact hij this.symm
      · have := (List.getElem?_eq_some_iff.1 (pos_some c1)).1
        omega
      · have := (List.getElem?_eq_some_iff.1 (pos_some c2)).1
        omega
      · omega
    · rw [e1, e2] at he
      exact hc.disj _ ⟨m, r1, he⟩ (.inr ⟨⟨j, r2, rfl⟩, callee_not_own hr n2 r2⟩)
    · rw [e1, e2] at he
      exact hc.disj _ ⟨m', r2, he.symm⟩ (.inr ⟨⟨i, r1, rfl⟩, callee_not_own hr n1 r1⟩)
    · rw [e1, e2] at he
      exact hr.inj i j hij r1 r2 he
  · intro k hk
    rw [setAll_len _ _ _ (by simpa using hl)] at hk
    simp at hk
    have hp : pos ι k = none := by
      cases hp : pos ι k with
      | none => rfl
      | some i =>
        have := hlt _ (List.mem_of_getElem? (pos_some hp))
        omega
    simp only [afterLoc, hp]
    rw [if_neg (by omega)]
    exact hc.out _ (by omega)
  · intro k B hB
    rw [setAll_get _ _ _ hn hlt' (by simpa using hl)] at hB
    cases hp : pos ι k with
    | some j =>
      rw [hp] at hB
      simp only [List.getElem?_map, Option.map_eq_some_iff] at hB
      obtain ⟨B', hB', rfl⟩ := hB
      have hk : back ι h.length j = some k := by simp [back, pos_some hp]
      exact renB_rep (after_sta hr) (fun a c hb _ => back_loc hn hlt hb) (back_loc hn hlt hk) (hc.blk j B' hB')
    | none =>
      rw [hp] at hB
      simp only [List.length_map] at hB
      split at hB
      · rename_i hkl
        simp only [List.getElem?_map, Option.map_eq_some_iff] at hB
        obtain ⟨B', hB', rfl⟩ := hB
        refine RepB_kill hfr M hag (by simp [afterLoc, hp, hkl]) (fun hreal => ?_) (hr.blk k B' hB')
        exact (hf.keep _ (hr.lt k hreal) (callee_not_own hr (pos_none hp) hreal)).1
      · rename_i hkl
        simp only [List.getElem?_map, Option.map_eq_some_iff] at hB
        obtain ⟨B', hB', rfl⟩ := hB
        have hk : back ι h.length (ι.length + (k - h.length)) = some k := by
          have : ι[ι.length + (k - h.length)]? = none := by simp
          simp only [back, this]
          congr 1
          omega
        exact renB_rep (after_sta hr) (fun a c hb _ => back_loc hn hlt hb) (back_loc hn hlt hk) (hc.blk _ B' hB')
  · intro b ho hx
    rcases after_own hr ho with h1 | h1
    · exact hc.disj b h1 (.inl hx)
    · exact hr.disj b h1.1 hx
  · intro k hk
    unfold afterLoc at hk ⊢
    split at hk
    · rename_i j hj
      exact hc.lt _ hk
    · rename_i hp
      split at hk
      · rename_i h1
        rw [if_pos h1]
        exact Nat.lt_of_lt_of_le (hr.lt k hk) hf.size
      · rename_i h1
        rw [if_neg h1]
        exact hc.lt _ hk
  · intro b hb
    exact Nat.lt_of_lt_of_le (hr.xlt b hb) hf.size
end
end Go.Fx
