import Derived.Test.YtmddpcjkpbjkeaaFxTree
set_option linter.unusedVariables false
set_option linter.unusedSimpArgs false
set_option linter.unusedSectionVars false
namespace Go.Fx
open Go.RowKit

/-- A body made anew. -/
def rlC (P : Program) (N : Nat) : Code → LCode → Option LCode
  | .skip, _ => some .skip
  | .label _, _ => some .skip
  | .scope c, l => rlC P N c l
  | .ret, _ => some .ret
  | .exit i, _ => some (.exit i)
  | .region _ ops draw, l => match l with
    | .reg n ls => match draw, rlOs P ops N ops.toList ls with
      | false, some r => some (.reg n r)
      | _, _ => none
    | .qui n ls => match draw, rlOs P ops N ops.toList ls with
      | true, some r => if (r.all fun l => quietOp l.op) && Region.lexB .any ops then some (.qui n r) else none
      | _, _ => none
    | .tail m n ls => match draw, rlOs P ops N ops.toList ls with
      | true, some r => if ((r.take m).all fun l => quietOp l.op) && Region.lexTailB .any ops m then some (.tail m n r) else none
      | _, _ => none
    | .tree n p => match draw, rlT P N ops p with
      | true, some r => some (.tree n r)
      | _, _ => none
    | .bad => some .bad
    | _ => none
  | .seq a b, l => match l with
    | .seq x y => match rlC P N a x, rlC P N b y with
      | some x', some y' => some (.seq x' y')
      | _, _ => none
    | .frz xs (.seq x y) => match rlC P N a x, rlC P N b y with
      | some x', some y' => some (.frz xs (.seq x' y'))
      | _, _ => none
    | .bad => some .bad
    | _ => none
  | .cond c a b, l => match l with
    | .cond _ x y => match rlC P N a x, rlC P N b y with
      | some x', some y' => some (.cond c x' y')
      | _, _ => none
    | _ => none
  | .block i a, l => match l with
    | .block _ x => match rlC P N a x with
      | some x' => some (.block i x')
      | none => none
    | _ => none
  | .loop a, l => match l with
    | .loop x => match rlC P N a x with
      | some x' => some (.loop x')
      | none => none
    | _ => none
  | _, _ => none

section
variable {P : Program} {ρ0 : Nat → Loc} {X : Nat → Prop} {w0 : World} {fx : List Nat} {N : Nat}

theorem le_get : ∀ {p : Env} {e : Env}, leE e p → ∀ i, get p i = .any ∨ get p i = get e i
  | [], _, _, _ => .inl rfl
  | (j, x) :: r, e, h, i => by
    simp only [get]
    split
    · rename_i hi
      subst hi
      exact .inr h.1.symm
    · exact le_get h.2 i

theorem leH_get : ∀ {h p : List Blk}, leH h p → ∀ (k : Nat) (B : Blk), p[k]? = some B → ∃ A, h[k]? = some A ∧ leB A B
  | _, [], _, k, B, hB => by simp at hB
  | a :: h, c :: p, hl, 0, B, hB => by
    simp only [List.getElem?_cons_zero, Option.some.injEq] at hB
    subst hB
    exact ⟨a, rfl, hl.1⟩
  | a :: h, c :: p, hl, k + 1, B, hB => by
    obtain ⟨A, h1, h2⟩ := leH_get (h := h) (p := p) hl.2 k B (by simpa using hB)
    exact ⟨A, by simpa using h1, h2⟩
  | [], _ :: _, hl, _, _, _ => hl.elim

theorem leVs_rep {ρ : Nat → Loc} {w : World} : ∀ {xs ys : List V} {vs : List Value}, leVs xs ys → RepL ρ X w xs vs → RepL ρ X w ys vs
  | [], [], _, _, h => h
  | x :: xs, y :: ys, u :: us, hl, h => by
    refine ⟨?_, leVs_rep hl.2 h.2⟩
    have h1 := hl.1
    unfold leV at h1
    split at h1
    · trivial
    · subst h1; exact h.1
  | _ :: _, _ :: _, [], _, h => h.elim
  | [], _ :: _, _, hl, _ => hl.elim
  | _ :: _, [], _, hl, _ => hl.elim

/-- Where the blocks lie that are still named. -/
def dropLoc (ρ : Nat → Loc) (p : List Blk) (k : Nat) : Loc :=
  match p[k]? with
  | some .dead => { ρ k with real := false }
  | some _ => ρ k
  | none => { ρ k with real := false }

theorem dropLoc_own {ρ : Nat → Loc} {p : List Blk} {b : Nat} (h : Own (dropLoc ρ p) b) : Own ρ b := by
  obtain ⟨k, h1, h2⟩ := h
  unfold dropLoc at h1 h2
  split at h1
  · cases h1
  · exact ⟨k, h1, by simp_all⟩
  · cases h1

theorem live_loc {ρ : Nat → Loc} {p : List Blk} {k : Nat} (h : liveP p k) : dropLoc ρ p k = ρ k := by
  unfold liveP at h
  unfold dropLoc
  cases hb : p[k]? with
  | none => rw [hb] at h; exact h.elim
  | some B => rw [hb] at h; cases B <;> first | rfl | exact h.elim

theorem drop_sta {ρ : Nat → Loc} {w : World} {p : List Blk} : ∀ b, Sta ρ X w b → Sta (dropLoc ρ p) X w b ∧ w.heap[b]? = w.heap[b]? :=
  fun _ h => ⟨⟨h.1, fun ho => h.2.1 (dropLoc_own ho), h.2.2⟩, rfl⟩
theorem drop_len {ρ : Nat → Loc} {w : World} {p : List Blk} {b : Nat} (h : Len ρ w b) : Len (dropLoc ρ p) w b := ⟨h.1, fun ho => h.2 (dropLoc_own ho)⟩

mutual
theorem drop_rep {ρ : Nat → Loc} {w : World} {p : List Blk} : ∀ (x : V) (val : Value), wfV p x → RepV ρ X w x val → RepV (dropLoc ρ p) X w x val
  | .any, _, _, _ => trivial
  | .v _, _, _, hx => hx
  | .ro sz els, val, _, hx => RepD_mono drop_sta (.ro sz els) val hx
  | .bro sz els, val, _, hx => by
    obtain ⟨a, len, cap, h1, h2, h3, h4, h5⟩ := hx
    refine ⟨a, len, cap, h1, h2, h3, h4, h5.imp id ?_⟩
    rintro ⟨b, off, h6, h7, h8⟩
    exact ⟨b, off, h6, drop_len h7, RepEls_mono drop_sta sz b rfl off els h8⟩
  | .full sz els, val, _, hx => by
    obtain ⟨a, len, h1, h2, h4, h5⟩ := hx
    refine ⟨a, len, h1, h2, h4, h5.imp id ?_⟩
    rintro ⟨b, off, h6, h7, h8⟩
    exact ⟨b, off, h6, drop_len h7, RepEls_mono drop_sta sz b rfl off els h8⟩
  | .rp sz els i f, val, _, hx => by
    obtain ⟨b, off, h6, h7, h8⟩ := hx
    exact ⟨b, off, h6, drop_len h7, RepEls_mono drop_sta sz b rfl off els h8⟩
  | .sl k i n, val, hw, hx => by
    obtain ⟨cap, h1, h2, h3⟩ := hx
    refine ⟨cap, h1, h2, ?_⟩
    rw [live_loc hw]
    exact h3
  | .ptr k i f, val, hw, hx => by
    simp only [RepV]
    rw [live_loc hw]
    exact hx
  | .agg cs, val, hw, hx => by
    obtain ⟨arr, h1, h2⟩ := hx
    exact ⟨arr, h1, drops_rep cs _ hw h2⟩
  | .tup cs, val, hw, hx => by
    obtain ⟨arr, h1, h2⟩ := hx
    exact ⟨arr, h1, drops_rep cs _ hw h2⟩
  | .clo f cs, val, hw, hx => by
    obtain ⟨arr, h1, h2⟩ := hx
    exact ⟨arr, h1, drops_rep cs _ hw h2⟩
  | .mp k, val, hw, hx => by
    simp only [RepV]
    rw [live_loc hw]
    exact hx
  | .itr _, _, _, hx => hx.elim
theorem drops_rep {ρ : Nat → Loc} {w : World} {p : List Blk} : ∀ (xs : List V) (vs : List Value), wfL p xs → RepL ρ X w xs vs → RepL (dropLoc ρ p) X w xs vs
  | [], [], _, _ => trivial
  | x :: r, u :: us, hw, hx => ⟨drop_rep x u hw.1 hx.1, drops_rep r us hw.2 hx.2⟩
  | [], _ :: _, _, hx => hx.elim
  | _ :: _, [], _, hx => hx.elim
end

theorem wfE_get {h : List Blk} : ∀ {e : Env}, wfE h e → ∀ i, wfV h (get e i)
  | [], _, _ => trivial
  | (j, x) :: r, hw, i => by
    simp only [get]
    split
    · exact hw.1
    · exact wfE_get hw.2 i

theorem wfB_get {h : List Blk} : ∀ {l : List Blk}, wfB h l → ∀ (k : Nat) (cs : List V), l[k]? = some (Blk.var cs) → wfL h cs
  | b :: r, hw, 0, cs, hk => by
    simp only [List.getElem?_cons_zero, Option.some.injEq] at hk
    subst hk
    exact hw.1
  | b :: r, hw, k + 1, cs, hk => by
    have : wfB h r := by cases b <;> first | exact hw | exact hw.2
    exact wfB_get this k cs (by simpa using hk)
  | [], _, _, _, hk => by simp at hk

theorem wfL_mem {h : List Blk} : ∀ {xs : List V}, wfL h xs → ∀ {x : V}, x ∈ xs → wfV h x
  | y :: r, hw, x, hx => by
    rcases List.mem_cons.1 hx with rfl | hx
    · exact hw.1
    · exact wfL_mem hw.2 hx
  | [], _, _, hx => by simp at hx
theorem wfB_tail {h : List Blk} {b : Blk} {r : List Blk} (hw : wfB h (b :: r)) : wfB h r := by cases b <;> first | exact hw | exact hw.2
theorem wfB_arv {h : List Blk} : ∀ {l : List Blk}, wfB h l → ∀ (k : Nat) (sz : Nat) (els : List (List V)), l[k]? = some (Blk.arv sz els) → wfL h els.flatten
  | b :: r, hw, 0, sz, els, hk => by
    simp only [List.getElem?_cons_zero, Option.some.injEq] at hk
    subst hk
    exact hw.1
  | b :: r, hw, k + 1, sz, els, hk => wfB_arv (wfB_tail hw) k sz els (by simpa using hk)
  | [], _, _, _, _, hk => by simp at hk
theorem wfB_map {h : List Blk} : ∀ {l : List Blk}, wfB h l → ∀ (k : Nat) (es : List (Value × V × Nat)) (c : Nat), l[k]? = some (Blk.map es c) → wfL h (es.map (·.2.1))
  | b :: r, hw, 0, sz, els, hk => by
    simp only [List.getElem?_cons_zero, Option.some.injEq] at hk
    subst hk
    exact hw.1
  | b :: r, hw, k + 1, sz, els, hk => wfB_map (wfB_tail hw) k sz els (by simpa using hk)
  | [], _, _, _, _, hk => by simp at hk
theorem wfB_it {h : List Blk} : ∀ {l : List Blk}, wfB h l → ∀ (k : Nat) (m : V) (s : Nat) (sn : List Nat) (c : Nat), l[k]? = some (Blk.it m s sn c) → wfV h m
  | b :: r, hw, 0, m, s, sn, c, hk => by
    simp only [List.getElem?_cons_zero, Option.some.injEq] at hk
    subst hk
    exact hw.1
  | b :: r, hw, k + 1, m, s, sn, c, hk => wfB_it (wfB_tail hw) k m s sn c (by simpa using hk)
  | [], _, _, _, _, _, _, hk => by simp at hk

theorem drop_fr {ρ : Nat → Loc} {w : World} {p : List Blk} : Fr ρ w (dropLoc ρ p) w := ⟨rfl, rfl, rfl, Nat.le_refl _, fun _ _ ho => ⟨rfl, fun h => ho (dropLoc_own h)⟩⟩

theorem dropRep {ρ : Nat → Loc} {w : World} {h p : List Blk} (hr : Rep ρ X w h) (hl : leH h p) (hw : wfB p p) : Rep (dropLoc ρ p) X w p := by
  have hreal : ∀ k, (dropLoc ρ p k).real = true → liveP p k := by
    intro k hk
    unfold dropLoc at hk
    unfold liveP
    cases hb : p[k]? with
    | none => rw [hb] at hk; cases hk
    | some B => rw [hb] at hk; cases B <;> first | trivial | cases hk
  refine ⟨?_, ?_, ?_, ?_, ?_, hr.xlt⟩
  · intro i j hij hi hj
    have h1 := hreal i hi
    have h2 := hreal j hj
    rw [live_loc h1] at hi ⊢
    rw [live_loc h2] at hj ⊢
    exact hr.inj i j hij hi hj
  · intro k hk
    have : p[k]? = none := by simpa using hk
    simp [dropLoc, this]
  · intro k B hB
    obtain ⟨A, hA, hAB⟩ := leH_get hl k B hB
    have hrA := hr.blk k A hA
    cases B with
    | dead => simp [RepB, dropLoc, hB]
    | arr sz els =>
      have hAB' : A = .arr sz els := hAB
      subst hAB'
      have hlive : liveP p k := by simp [liveP, hB]
      simp only [RepB] at hrA ⊢
      rw [live_loc hlive]
      refine ⟨hrA.1, hrA.2.imp id ?_⟩
      rintro ⟨h1, c, T, h2, h3, h4, h5⟩
      exact ⟨h1, c, T, h2, h3, h4, RepEls_mono drop_sta sz _ rfl _ _ h5⟩
    | var ys =>
      cases A with
      | var xs =>
        have hlive : liveP p k := by simp [liveP, hB]
        simp only [RepB] at hrA ⊢
        rw [live_loc hlive]
        obtain ⟨h1, c, T, h2, h3⟩ := hrA
        exact ⟨h1, c, T, h2, drops_rep _ _ (wfB_get hw k ys hB) (leVs_rep hAB h3)⟩
      | _ => exact hAB.elim
    | arv sz els =>
      have hAB' : A = .arv sz els := hAB
      subst hAB'
      have hlive : liveP p k := by simp [liveP, hB]
      simp only [RepB] at hrA ⊢
      rw [live_loc hlive]
      obtain ⟨h0, h1, c, T, h2, h3, h4, h5⟩ := hrA
      refine ⟨h0, h1, c, T, h2, h3, h4, fun i e he => ⟨(h5 i e he).1, fun f x hx => ?_⟩⟩
      obtain ⟨u, h6, h7⟩ := (h5 i e he).2 f x hx
      exact ⟨u, h6, drop_rep _ _ (wfL_mem (wfB_arv hw k sz els hB) (List.mem_flatten.2 ⟨e, List.mem_of_getElem? he, List.mem_of_getElem? hx⟩)) h7⟩
    | map es cl =>
      have hAB' : A = .map es cl := hAB
      subst hAB'
      have hlive : liveP p k := by simp [liveP, hB]
      simp only [RepB] at hrA ⊢
      rw [live_loc hlive]
      obtain ⟨h1, arr, h2, h3, h4⟩ := hrA
      exact ⟨h1, arr, h2, h3, drops_rep _ _ (wfB_map hw k es cl hB) h4⟩
    | it m s sn l =>
      have hAB' : A = .it m s sn l := hAB
      subst hAB'
      have hlive : liveP p k := by simp [liveP, hB]
      simp only [RepB] at hrA ⊢
      rw [live_loc hlive]
      obtain ⟨h1, x, h2, h3⟩ := hrA
      exact ⟨h1, x, h2, drop_rep _ _ (wfB_it hw k m s sn l hB) h3⟩
  · rintro b ho hx
    exact hr.disj b (dropLoc_own ho) hx
  · intro k hk
    have hl' := hreal k hk
    rw [live_loc hl'] at hk ⊢
    exact hr.lt k hk

theorem Good.le {s p : St} {a : Act} {w : World} (h : Good ρ0 X w0 fx N s a w) (hl : leS fx s p) : Good ρ0 X w0 fx N p a w := by
  obtain ⟨ρ, ⟨⟨hf, h1⟩, hk⟩, ⟨hr, he⟩, h5⟩ := h
  obtain ⟨l1, l2, l3, l4, l5⟩ := hl
  refine ⟨dropLoc ρ p.h, ⟨⟨hf.trans drop_fr, fun k hk' => by rw [live_loc (keepP_get l3 k hk')]; exact h1 k hk'⟩, l3⟩, ⟨dropRep hr l2 l5, fun i => ?_⟩, h5⟩
  have hwf := wfE_get l4 i
  rcases le_get l1 i with hg | hg
  · rw [hg]; trivial
  · exact drop_rep _ _ hwf (by rw [hg]; exact he i)

/-- What is given up is shown from now on. -/
theorem frzP_good {a : Act} {w : World} {K : St → Prop} : ∀ (xs : List Nat) (s : St), frzP fx xs s K → Good ρ0 X w0 fx N s a w → ∃ s', K s' ∧ Good ρ0 X w0 fx N s' a w
  | [], s, h, hg => ⟨s, h, hg⟩
  | x :: r, s, h, hg => by
    simp only [frzP] at h
    split at h
    · rename_i k i n hx
      unfold frz1 at h
      split at h
      · rename_i sz els hb
        obtain ⟨hk, h⟩ := h
        have hb' : s.h[k]? = some (.arr sz els) := by
          unfold blk at hb
          rw [List.getD_eq_getElem?_getD] at hb
          cases hk : s.h[k]? with
          | none => simp [hk] at hb
          | some B => rw [hk] at hb; simpa using hb
        refine frzP_good r _ h ?_
        obtain ⟨ρ, ⟨⟨g1, g2⟩, g3⟩, ⟨g4, g5⟩, g6⟩ := hg
        have hne : ∀ j ∈ fx, j ≠ k := fun j hj e => hk (e ▸ hj)
        exact ⟨lessLoc ρ k, ⟨⟨g1.trans less_fr, fun j hj => by rw [less_ne (hne j hj)]; exact g2 j hj⟩, keepP_mk fun j hj => live_frz (keepP_get g3 j hj) (hne j hj)⟩,
          ⟨frzRep g4 hb', fun i => by rw [get_frzE]; exact frz_rep g4 hb' _ _ (g5 i)⟩, g6⟩
      · exact frzP_good r s h hg
    · exact frzP_good r s h hg

theorem brV_inv {c : V} {A B : Prop} (h : brV c A B) : ∃ t, c = .v (.bool t) ∧ (t = true → A) ∧ (t = false → B) := by
  unfold brV at h
  split at h
  · exact ⟨_, rfl, h⟩
  · exact h.elim

/-- THE EXECUTOR IS SOUND. -/
theorem aw_sound (hP : P.follows .mixedOrders = true) {cx : Cx} (hcx : cx.ok P) (hfxe : cx.fx = fx) :
    ∀ (c : Code) (l0 l : LCode), rlC P N c l0 = some l → ∀ (Q : Exit → Act → World → Prop) (Nn : St → Prop) (Xx : Nat → St → Prop) (Rr : St → Prop),
      (∀ s a w, Nn s → Good ρ0 X w0 fx N s a w → Q .normal a w) → (∀ j s a w, Xx j s → Good ρ0 X w0 fx N s a w → Q (.exit j) a w) → (∀ s a w, Rr s → Good ρ0 X w0 fx N s a w → Q .ret a w) →
      ∀ s a w, aw cx l Nn Xx Rr s → Good ρ0 X w0 fx N s a w → c.wp P Q a w := by
  intro c
  induction c with
  | skip =>
    intro l0 l hm Q Nn Xx Rr hN hX hR s a w h hg
    simp only [rlC, Option.some.injEq] at hm
    subst hm
    exact wp_skip (hN s a w h hg)
  | ret =>
    intro l0 l hm Q Nn Xx Rr hN hX hR s a w h hg
    simp only [rlC, Option.some.injEq] at hm
    subst hm
    exact wp_ret (hR s a w h hg)
  | label i =>
    intro l0 l hm Q Nn Xx Rr hN hX hR s a w h hg
    simp only [rlC, Option.some.injEq] at hm
    subst hm
    exact wp_label (hN s a w h hg)
  | scope c ih =>
    intro l0 l hm Q Nn Xx Rr hN hX hR s a w h hg
    simp only [rlC] at hm
    exact wp_scope_straight (ih l0 l hm (Exit.noGoto Q) Nn Xx Rr hN hX hR s a w h hg)
  | exit i =>
    intro l0 l hm Q Nn Xx Rr hN hX hR s a w h hg
    simp only [rlC, Option.some.injEq] at hm
    subst hm
    exact wp_exit (hX i s a w h hg)
  | region id ops draw =>
    intro l0 l hm Q Nn Xx Rr hN hX hR s a w h hg
    simp only [rlC] at hm
    split at hm
    · split at hm
      · rename_i r hr
        simp only [Option.some.injEq] at hm
        subst hm
        exact wp_region_list (aOps_sound hcx hfxe hN _ _ _ _ a w hr (hg.reserve _ _) h)
      · cases hm
    · split at hm
      · rename_i r hr
        split at hm
        · rename_i hc
          simp only [Bool.and_eq_true] at hc
          simp only [Option.some.injEq] at hm
          subst hm
          exact qui_sound hP hN hr hc.1 hc.2 (hg.reserve _ _) h
        · cases hm
      · cases hm
    · split at hm
      · rename_i r hr
        split at hm
        · rename_i hc
          simp only [Bool.and_eq_true] at hc
          simp only [Option.some.injEq] at hm
          subst hm
          exact tail_sound hP hcx hfxe hN hr hc.1 hc.2 (hg.reserve _ _) h
        · cases hm
      · cases hm
    · split at hm
      · rename_i r hr
        simp only [Option.some.injEq] at hm
        subst hm
        exact tree_sound hP hcx hfxe hN hr (hg.reserve _ _) h
      · cases hm
    · simp only [Option.some.injEq] at hm
      subst hm
      exact h.elim
    · cases hm
  | seq a b iha ihb =>
    intro l0 l hm Q Nn Xx Rr hN hX hR s ac w h hg
    simp only [rlC] at hm
    split at hm
    · split at hm
      · rename_i x' y' h1 h2
        simp only [Option.some.injEq] at hm
        subst hm
        refine wp_seq (iha _ _ h1 _ (fun s' => aw cx y' Nn Xx Rr s') Xx Rr ?_ ?_ ?_ s ac w h hg)
        · intro s' a' w' h' hg'
          exact ihb _ _ h2 Q Nn Xx Rr hN hX hR s' a' w' h' hg'
        · exact hX
        · exact hR
      · cases hm
    · split at hm
      · rename_i x' y' h1 h2
        simp only [Option.some.injEq] at hm
        subst hm
        simp only [aw, hfxe] at h
        obtain ⟨s1, h, hg⟩ := frzP_good _ s h hg
        refine wp_seq (iha _ _ h1 _ (fun s' => aw cx y' Nn Xx Rr s') Xx Rr ?_ ?_ ?_ s1 ac w h hg)
        · intro s' a' w' h' hg'
          exact ihb _ _ h2 Q Nn Xx Rr hN hX hR s' a' w' h' hg'
        · exact hX
        · exact hR
      · cases hm
    · simp only [Option.some.injEq] at hm
      subst hm
      exact h.elim
    · cases hm
  | cond c a b iha ihb =>
    intro l0 l hm Q Nn Xx Rr hN hX hR s ac w h hg
    simp only [rlC] at hm
    split at hm
    · split at hm
      · rename_i x' y' h1 h2
        simp only [Option.some.injEq] at hm
        subst hm
        simp only [aw] at h
        obtain ⟨t, ht, hA, hB⟩ := brV_inv h
        have hev : ac.eval c = .bool t := by
          obtain ⟨ρ, _, ⟨_, he⟩, _⟩ := hg
          have := ev_rep he c
          rw [ht] at this
          exact this
        refine wp_cond hev ?_
        cases t
        · exact ihb _ _ h2 Q Nn Xx Rr hN hX hR s ac w (hB rfl) hg
        · exact iha _ _ h1 Q Nn Xx Rr hN hX hR s ac w (hA rfl) hg
      · cases hm
    · cases hm
  | block i a iha =>
    intro l0 l hm Q Nn Xx Rr hN hX hR s ac w h hg
    simp only [rlC] at hm
    split at hm
    · split at hm
      · rename_i x' h1
        simp only [Option.some.injEq] at hm
        subst hm
        refine wp_block (iha _ _ h1 _ Nn (fun j s' => if j = i then Nn s' else Xx j s') Rr ?_ ?_ ?_ s ac w h hg)
        · exact hN
        · intro j s' a' w' h' hg'
          show if j = i then _ else _
          split at h'
          · rename_i hj; rw [if_pos hj]; exact hN s' a' w' h' hg'
          · rename_i hj; rw [if_neg hj]; exact hX j s' a' w' h' hg'
        · exact hR
      · cases hm
    · cases hm
  | loop a iha =>
    intro l0 l hm Q Nn Xx Rr hN hX hR s ac w h hg
    simp only [rlC] at hm
    split at hm
    · split at hm
      · rename_i x' h1
        simp only [Option.some.injEq] at hm
        subst hm
        obtain ⟨G, pat, I, μ, ⟨g, hI, hle⟩, hround⟩ := h
        rw [hfxe] at hle hround
        refine wp_loop_ghost (fun n a w => ∃ g, (I g ∧ μ g = n) ∧ Good ρ0 X w0 fx N (pat g) a w) (μ g) ⟨g, ⟨hI, rfl⟩, hg.le hle⟩ ?_
        rintro n a' w' ⟨g', ⟨hI', rfl⟩, hg'⟩
        refine iha _ _ h1 _ _ Xx Rr ?_ ?_ ?_ (pat g') a' w' (hround g' hI') hg'
        · rintro s' a'' w'' ⟨g'', ⟨hI'', hlt⟩, hle''⟩ hg''
          exact ⟨μ g'', hlt, g'', ⟨hI'', rfl⟩, hg''.le hle''⟩
        · exact hX
        · exact hR
      · cases hm
    · cases hm
  | _ => intro l0 l hm; simp [rlC] at hm
end
end Go.Fx
