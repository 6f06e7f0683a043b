import Derived.Test.YtmddpcjkpbjkeaaFxQuiet
set_option linter.unusedVariables false
set_option linter.unusedSimpArgs false
set_option linter.unusedSectionVars false
namespace Go.Fx
open Go.RowKit

section
variable {ρ ρ' : Nat → Loc} {X : Nat → Prop} {w w' : World} {P : Program}

def upd (ρ : Nat → Loc) (k : Nat) (l : Loc) : Nat → Loc := fun j => if j = k then l else ρ j
theorem upd_same (ρ : Nat → Loc) (k : Nat) (l : Loc) : upd ρ k l k = l := by simp [upd]
theorem upd_other (ρ : Nat → Loc) {k j : Nat} (l : Loc) (h : j ≠ k) : upd ρ k l j = ρ j := by simp [upd, h]

theorem kills_map (M : List Nat) : ∀ xs : List V, kills M xs = xs.map (kill M)
  | [] => rfl
  | x :: r => by simp [kills, kills_map M r]
theorem kills_len (M : List Nat) (xs : List V) : (kills M xs).length = xs.length := by simp [kills_map]

theorem RepB_mono (hf : Fr ρ w ρ' w') (hag : ∀ k, (ρ k).real = true → ρ' k = ρ k) {j : Nat} (hj : ρ' j = ρ j) (hb : (ρ j).real = true → w'.heap[(ρ j).blk]? = w.heap[(ρ j).blk]?) {B : Blk} (h : RepB ρ X w j B) : RepB ρ' X w' j B := by
  cases B with
  | dead => simp only [RepB] at h ⊢; rw [hj]; exact h
  | arr sz els =>
    simp only [RepB] at h ⊢
    rw [hj]
    refine ⟨h.1, h.2.imp id ?_⟩
    rintro ⟨h1, c, T, h2, h3, h4, h5⟩
    exact ⟨h1, c, T, (hb h1).trans h2, h3, h4, RepEls_mono hf.sta sz _ (hb h1) _ _ h5⟩
  | var cs =>
    simp only [RepB] at h ⊢
    rw [hj]
    obtain ⟨h1, c, T, h2, h3⟩ := h
    exact ⟨h1, c, T, (hb h1.1).trans h2, RepL_mono hf hag _ _ h3⟩
  | arv sz els =>
    simp only [RepB] at h ⊢
    rw [hj]
    obtain ⟨h0, h1, c, T, h2, h3, h4, h5⟩ := h
    refine ⟨h0, h1, c, T, (hb h1).trans h2, h3, h4, fun i e he => ⟨(h5 i e he).1, fun f x hx => ?_⟩⟩
    obtain ⟨u, h6, h7⟩ := (h5 i e he).2 f x hx
    exact ⟨u, h6, RepV_mono hf hag _ _ h7⟩
  | map es cl =>
    simp only [RepB] at h ⊢
    rw [hj]
    obtain ⟨h1, arr, h2, h3, h4⟩ := h
    exact ⟨h1, arr, (hb h1.1).trans h2, h3, RepL_mono hf hag _ _ h4⟩
  | it m s sn l =>
    simp only [RepB] at h ⊢
    rw [hj]
    obtain ⟨h1, x, h2, h3⟩ := h
    exact ⟨h1, x, (hb h1.1).trans h2, RepV_mono hf hag _ _ h3⟩

theorem RepB_kill (hf : Fr ρ w ρ' w') (M : List Nat) (hag : ∀ k, k ∉ M → (ρ k).real = true → ρ' k = ρ k) {j : Nat} (hj : ρ' j = ρ j) (hb : (ρ j).real = true → w'.heap[(ρ j).blk]? = w.heap[(ρ j).blk]?) {B : Blk} (h : RepB ρ X w j B) : RepB ρ' X w' j (killB M B) := by
  cases B with
  | dead => simp only [RepB, killB] at h ⊢; rw [hj]; exact h
  | arr sz els =>
    simp only [RepB, killB] at h ⊢
    rw [hj]
    refine ⟨h.1, h.2.imp id ?_⟩
    rintro ⟨h1, c, T, h2, h3, h4, h5⟩
    exact ⟨h1, c, T, (hb h1).trans h2, h3, h4, RepEls_mono hf.sta sz _ (hb h1) _ _ h5⟩
  | var cs =>
    simp only [RepB, killB] at h ⊢
    rw [hj]
    obtain ⟨h1, c, T, h2, h3⟩ := h
    exact ⟨h1, c, T, (hb h1.1).trans h2, RepL_kill hf M hag _ _ h3⟩
  | arv sz els =>
    simp only [RepB, killB] at h ⊢
    rw [hj]
    obtain ⟨h0, h1, c, T, h2, h3, h4, h5⟩ := h
    refine ⟨h0, h1, c, T, (hb h1).trans h2, h3, by simpa using h4, fun i e he => ?_⟩
    simp only [List.getElem?_map, Option.map_eq_some_iff] at he
    obtain ⟨e0, he0, rfl⟩ := he
    refine ⟨by rw [kills_len]; exact (h5 i e0 he0).1, fun f x hx => ?_⟩
    simp only [kills_map, List.getElem?_map, Option.map_eq_some_iff] at hx
    obtain ⟨x0, hx0, rfl⟩ := hx
    obtain ⟨u, h6, h7⟩ := (h5 i e0 he0).2 f x0 hx0
    exact ⟨u, h6, RepV_kill hf M hag _ _ h7⟩
  | map es cl =>
    simp only [RepB, killB] at h ⊢
    rw [hj]
    obtain ⟨h1, arr, h2, h3, h4⟩ := h
    refine ⟨h1, arr, (hb h1.1).trans h2, by rw [h3]; simp, ?_⟩
    rw [show (List.map (fun e : Value × V × Nat => (e.1, kill M e.2.1, e.2.2)) es).map (·.2.1) = kills M (es.map (·.2.1)) by rw [kills_map]; simp]
    exact RepL_kill hf M hag _ _ h4
  | it m s sn l =>
    simp only [RepB, killB] at h ⊢
    rw [hj]
    obtain ⟨h1, x, h2, h3⟩ := h
    exact ⟨h1, x, (hb h1.1).trans h2, RepV_kill hf M hag _ _ h3⟩

theorem freshP_inv {h : List Blk} {k : Nat} (hf : freshP h k) : h[k]? = some .dead := by
  unfold freshP at hf
  split at hf
  · assumption
  · exact hf.elim

theorem RepE_mono {e : Env} {t : Array Value} (hf : Fr ρ w ρ' w') (hag : ∀ k, (ρ k).real = true → ρ' k = ρ k) (he : RepE ρ X w e t) : RepE ρ' X w' e t :=
  fun i => RepV_mono hf hag _ _ (he i)

theorem get_killE (k : List Nat) : ∀ (e : Env) (i : Nat), get (killE k e) i = kill k (get e i)
  | [], _ => by simp [get, killE, kill]
  | (j, x) :: r, i => by
    simp only [get, killE]
    split
    · rfl
    · exact get_killE k r i

theorem RepE_kill {e : Env} {t : Array Value} (hf : Fr ρ w ρ' w') (M : List Nat) (hag : ∀ k, k ∉ M → (ρ k).real = true → ρ' k = ρ k) (he : RepE ρ X w e t) : RepE ρ' X w' (killE M e) t :=
  fun i => by rw [get_killE]; exact RepV_kill hf M hag _ _ (he i)

/-- A world in which a block has been made, and perhaps the tape asked. -/
structure Made (w w' : World) (o : Obj) : Prop where
  os : w'.os = w.os
  tape : w'.tape = w.tape
  output : w'.output = w.output
  heap : w'.heap = w.heap.push o

theorem Made.alloc (w : World) (o : Obj) : Made w (w.alloc o) o := ⟨rfl, rfl, rfl, rfl⟩
theorem Made.drewAlloc (w : World) (o : Obj) : Made w (w.drew.alloc o) o := ⟨rfl, rfl, rfl, rfl⟩
theorem Made.size {o : Obj} (h : Made w w' o) : w'.heap.size = w.heap.size + 1 := by simp [h.heap]
theorem Made.new {o : Obj} (h : Made w w' o) : w'.heap[w.heap.size]? = some o := by simp [h.heap]
theorem Made.old {o : Obj} (h : Made w w' o) {b : Nat} (hb : b < w.heap.size) : w'.heap[b]? = w.heap[b]? := by
  rw [h.heap, Array.getElem?_push, if_neg (by omega)]

/-- A new block under a number that was laid by. -/
theorem new_fr {o : Obj} (hm : Made w w' o) {k : Nat} {l : Loc} (hl : l.blk = w.heap.size) : Fr ρ w (upd ρ k l) w' where
  os := hm.os
  tape := hm.tape
  output := hm.output
  size := by rw [hm.size]; omega
  keep b hb ho := by
    refine ⟨hm.old hb, ?_⟩
    rintro ⟨j, h1, h2⟩
    by_cases hj : j = k
    · subst hj
      rw [upd_same] at h2
      omega
    · rw [upd_other _ _ hj] at h1 h2
      exact ho ⟨j, h1, h2⟩

theorem new_ag {k : Nat} (hk : (ρ k).real = false) (l : Loc) : ∀ j, (ρ j).real = true → upd ρ k l j = ρ j := by
  intro j hj
  by_cases h : j = k
  · subst h; rw [hk] at hj; cases hj
  · exact upd_other _ _ h

theorem new_rep {h : List Blk} (hr : Rep ρ X w h) {o : Obj} (hm : Made w w' o) {k : Nat} (hk : h[k]? = some .dead) {l : Loc} (hl : l.blk = w.heap.size) {B : Blk}
    (hB : RepB (upd ρ k l) X w' k B) : Rep (upd ρ k l) X w' (h.set k B) := by
  have hkr : (ρ k).real = false := hr.blk k _ hk
  have hf := new_fr (ρ := ρ) hm (k := k) hl
  have hag := new_ag hkr l
  have hklt : k < h.length := (List.getElem?_eq_some_iff.1 hk).1
  refine ⟨?_, ?_, ?_, ?_, ?_, ?_⟩
  · intro i j hij hi hj
    by_cases h1 : i = k
    · subst h1
      rw [upd_same, upd_other _ _ (Ne.symm hij)] at *
      have := hr.lt j hj
      omega
    · by_cases h2 : j = k
      · subst h2
        rw [upd_same, upd_other _ _ h1] at *
        have := hr.lt i hi
        omega
      · rw [upd_other _ _ h1] at hi ⊢
        rw [upd_other _ _ h2] at hj ⊢
        exact hr.inj i j hij hi hj
  · intro j hj
    rw [upd_other _ _ (by simp at hj; omega)]
    exact hr.out j (by simpa using hj)
  · intro j B' hB'
    by_cases h1 : j = k
    · subst h1
      rw [List.getElem?_set_self hklt] at hB'
      simp only [Option.some.injEq] at hB'
      subst hB'
      exact hB
    · rw [List.getElem?_set_ne (Ne.symm h1)] at hB'
      exact RepB_mono hf hag (upd_other _ _ h1) (fun hj => hm.old (hr.lt j hj)) (hr.blk j B' hB')
  · rintro b ⟨j, h1, h2⟩ hx
    by_cases h3 : j = k
    · subst h3
      rw [upd_same] at h2
      have := hr.xlt b hx
      omega
    · rw [upd_other _ _ h3] at h1 h2
      exact hr.disj b ⟨j, h1, h2⟩ hx
  · intro j hj
    rw [hm.size]
    by_cases h3 : j = k
    · subst h3
      rw [upd_same]
      omega
    · rw [upd_other _ _ h3] at hj ⊢
      have := hr.lt j hj
      omega
  · intro b hx
    rw [hm.size]
    have := hr.xlt b hx
    omega

/-! ### Stores -/

theorem setCells_heap (b : Nat) : ∀ (vs : List Value) (o : Nat) (w : World) (c : Array Value) (T : TypeId) (fz : Nat × Nat), w.heap[b]? = some (.cells c T fz) → o + vs.length ≤ c.size →
    ∃ c', (w.setCells b o vs).heap[b]? = some (.cells c' T fz) ∧ c'.size = c.size ∧ ∀ i, c'[i]? = if o ≤ i ∧ i < o + vs.length then vs[i - o]? else c[i]?
  | [], o, w, c, T, fz, h, _ => ⟨c, h, rfl, fun i => by rw [if_neg (by rintro ⟨h1, h2⟩; simp at h2; omega)]⟩
  | v :: r, o, w, c, T, fz, h, hl => by
    have h1 : (w.setCell ⟨b, o, none⟩ v).heap[b]? = some (.cells (c.setIfInBounds o v) T fz) := by
      simp [World.setCell, Array.getElem?_modify, h]
    obtain ⟨c', h2, h3, h4⟩ := setCells_heap b r (o + 1) _ _ T fz h1 (by simp at hl ⊢; omega)
    refine ⟨c', h2, by simpa using h3, fun i => ?_⟩
    rw [h4 i]
    by_cases hi : i = o
    · subst hi
      rw [if_neg (by omega), if_pos (by simp)]
      simp at hl
      simp [Array.getElem?_setIfInBounds]
      omega
    · by_cases h5 : o + 1 ≤ i ∧ i < o + 1 + r.length
      · rw [if_pos h5, if_pos (by simp; omega)]
        obtain ⟨m, rfl⟩ : ∃ m, i = o + 1 + m := ⟨i - (o + 1), by omega⟩
        rw [show o + 1 + m - (o + 1) = m by omega, show o + 1 + m - o = m + 1 by omega]
        simp
      · rw [if_neg h5, if_neg (by simp; omega), Array.getElem?_setIfInBounds, if_neg (by omega)]

theorem setCells_other (b : Nat) : ∀ (vs : List Value) (o : Nat) (w : World) (j : Nat), j ≠ b → (w.setCells b o vs).heap[j]? = w.heap[j]?
  | [], _, _, _, _ => rfl
  | v :: r, o, w, j, h => by
    rw [World.setCells, setCells_other b r (o + 1) _ j h]
    simp [World.setCell, Array.getElem?_modify, Ne.symm h]
theorem setCells_size (b : Nat) : ∀ (vs : List Value) (o : Nat) (w : World), (w.setCells b o vs).heap.size = w.heap.size
  | [], _, _ => rfl
  | v :: r, o, w => by rw [World.setCells, setCells_size b r]; simp [World.setCell]
theorem setCells_rest (b : Nat) : ∀ (vs : List Value) (o : Nat) (w : World), (w.setCells b o vs).os = w.os ∧ (w.setCells b o vs).tape = w.tape ∧ (w.setCells b o vs).output = w.output
  | [], _, _ => ⟨rfl, rfl, rfl⟩
  | v :: r, o, w => by rw [World.setCells]; exact setCells_rest b r _ _

theorem store_fr {h : List Blk} (_hr : Rep ρ X w h) {k : Nat} (hk : (ρ k).real = true) (o : Nat) (vs : List Value) : Fr ρ w ρ (w.setCells (ρ k).blk o vs) where
  os := (setCells_rest _ vs o w).1
  tape := (setCells_rest _ vs o w).2.1
  output := (setCells_rest _ vs o w).2.2
  size := by rw [setCells_size]; omega
  keep b _ ho := ⟨setCells_other _ _ _ _ _ (fun e => ho ⟨k, hk, e.symm⟩), ho⟩

theorem store_rep {h : List Blk} (hr : Rep ρ X w h) {k : Nat} (hk : (ρ k).real = true) {o : Nat} {vs : List Value} {B : Blk} (hB : RepB ρ X (w.setCells (ρ k).blk o vs) k B) : Rep ρ X (w.setCells (ρ k).blk o vs) (h.set k B) := by
  have hf := store_fr hr hk o vs
  have hklt : k < h.length := by
    rcases Nat.lt_or_ge k h.length with h1 | h1
    · exact h1
    · rw [hr.out k h1] at hk; cases hk
  refine ⟨hr.inj, fun j hj => hr.out j (by simpa using hj), ?_, hr.disj, fun j hj => by rw [setCells_size]; exact hr.lt j hj, fun b hb => by rw [setCells_size]; exact hr.xlt b hb⟩
  intro j B' hB'
  by_cases h1 : j = k
  · subst h1
    rw [List.getElem?_set_self hklt] at hB'
    simp only [Option.some.injEq] at hB'
    subst hB'
    exact hB
  · rw [List.getElem?_set_ne (Ne.symm h1)] at hB'
    exact RepB_mono hf (fun _ _ => rfl) rfl (fun hj => setCells_other _ _ _ _ _ (hr.inj j k h1 hj hk)) (hr.blk j B' hB')
end
end Go.Fx
