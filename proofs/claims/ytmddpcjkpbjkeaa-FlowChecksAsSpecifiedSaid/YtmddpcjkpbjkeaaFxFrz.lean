import Derived.Test.YtmddpcjkpbjkeaaFxMap
set_option linter.unusedVariables false
set_option linter.unusedSimpArgs false
set_option linter.unusedSectionVars false
namespace Go.Fx
open Go.RowKit
section
variable {X : Nat → Prop}
theorem frzL_map (k sz : Nat) (els : List (List V)) : ∀ xs : List V, frzL k sz els xs = xs.map (frzV k sz els)
  | [] => rfl
  | x :: r => by simp [frzL, frzL_map k sz els r]

theorem get_frzE (k sz : Nat) (els : List (List V)) : ∀ (e : Env) (i : Nat), get (frzE k sz els e) i = frzV k sz els (get e i)
  | [], _ => by simp [get, frzE, frzV]
  | (j, x) :: r, i => by
    simp only [get, frzE]
    split
    · rfl
    · exact get_frzE k sz els r i

section
variable {ρ : Nat → Loc} {w : World} {h : List Blk} {k sz : Nat} {els : List (List V)}

/-- Where the other blocks lie. -/
def lessLoc (ρ : Nat → Loc) (k j : Nat) : Loc := if j = k then { ρ k with real := false } else ρ j

theorem less_own {b : Nat} (ho : Own (lessLoc ρ k) b) : Own ρ b := by
  obtain ⟨j, h1, h2⟩ := ho
  unfold lessLoc at h1 h2
  split at h1
  · cases h1
  · rename_i hj; rw [if_neg hj] at h2; exact ⟨j, h1, h2⟩
theorem less_fr : Fr ρ w (lessLoc ρ k) w := ⟨rfl, rfl, rfl, Nat.le_refl _, fun _ _ ho => ⟨rfl, fun h => ho (less_own h)⟩⟩
theorem less_sta : ∀ b, Sta ρ X w b → Sta (lessLoc ρ k) X w b ∧ w.heap[b]? = w.heap[b]? := fun _ h => ⟨h.fr less_fr, rfl⟩
theorem less_ne {j : Nat} (hj : j ≠ k) : lessLoc ρ k j = ρ j := by simp [lessLoc, hj]

mutual
theorem frz_rep (hr : Rep ρ X w h) (hb : h[k]? = some (.arr sz els)) : ∀ (x : V) (val : Value), RepV ρ X w x val → RepV (lessLoc ρ k) X w (frzV k sz els x) val
  | .any, _, _ => trivial
  | .v _, _, hx => hx
  | .ro sz els, val, hx => RepD_mono less_sta (.ro sz els) val hx
  | .bro sz els, val, hx => by
    obtain ⟨a, len, cap, h1, h2, h3, h4, h5⟩ := hx
    refine ⟨a, len, cap, h1, h2, h3, h4, h5.imp id ?_⟩
    rintro ⟨b, off, h6, h7, h8⟩
    exact ⟨b, off, h6, h7.fr less_fr, RepEls_mono less_sta sz b rfl off els h8⟩
  | .full sz els, val, hx => by
    obtain ⟨a, len, h1, h2, h4, h5⟩ := hx
    refine ⟨a, len, h1, h2, h4, h5.imp id ?_⟩
    rintro ⟨b, off, h6, h7, h8⟩
    exact ⟨b, off, h6, h7.fr less_fr, RepEls_mono less_sta sz b rfl off els h8⟩
  | .rp sz els i f, val, hx => by
    obtain ⟨b, off, h6, h7, h8⟩ := hx
    exact ⟨b, off, h6, h7.fr less_fr, RepEls_mono less_sta sz b rfl off els h8⟩
  | .sl j i n, val, hx => by
    by_cases hj : j = k
    · subst hj
      simp only [frzV, if_true]
      by_cases hin : i + n ≤ els.length
      · rw [if_pos hin]
        obtain ⟨⟨hsz, hpos⟩, hor⟩ := hr.blk j _ hb
        obtain ⟨cap, h4, h5, h6⟩ := hx
        have hlen : ((els.drop i).take n).length = n := by simp; omega
        rcases h6 with ⟨rfl, a, rfl⟩ | ⟨hreal, rfl, hroom⟩
        · have hn : n = 0 := by omega
          subst hn
          exact ⟨a, 0, 0, rfl, by simp, Nat.le_refl _, Nat.zero_le _, .inl (by simp)⟩
        · rcases hor with ⟨g1, _⟩ | ⟨_, c, T, hh, hc, hrm, hels⟩
          · rw [g1] at hreal; cases hreal
          · refine ⟨_, n, cap, rfl, hlen.symm, h4, h5, .inr ⟨(ρ j).blk, (ρ j).off + i * (ρ j).sz, rfl, ⟨hr.lt j hreal, ?_, hr.disj _ ⟨j, hreal, rfl⟩⟩, ?_⟩⟩
            · rintro ⟨m, h1, h2⟩
              unfold lessLoc at h1 h2
              split at h1
              · cases h1
              · rename_i hm; rw [if_neg hm] at h2; exact hr.inj m j hm h1 hreal h2
            · rw [hsz]; exact RepEls_mono less_sta sz _ rfl _ _ (slc_els hels)
      · rw [if_neg hin]; trivial
    · simp only [frzV, hj, if_false]
      obtain ⟨cap, h1, h2, h3⟩ := hx
      refine ⟨cap, h1, h2, ?_⟩
      rw [less_ne hj]
      exact h3
  | .ptr j i f, val, hx => by
    by_cases hj : j = k
    · simp only [frzV, hj, if_true]; trivial
    · simp only [frzV, hj, if_false, RepV]
      rw [less_ne hj]
      exact hx
  | .mp j, val, hx => by
    by_cases hj : j = k
    · simp only [frzV, hj, if_true]; trivial
    · simp only [frzV, hj, if_false, RepV]
      rw [less_ne hj]
      exact hx
  | .agg cs, val, hx => by
    obtain ⟨arr, h1, h2⟩ := hx
    exact ⟨arr, h1, frzs_rep hr hb cs _ h2⟩
  | .tup cs, val, hx => by
    obtain ⟨arr, h1, h2⟩ := hx
    exact ⟨arr, h1, frzs_rep hr hb cs _ h2⟩
  | .clo f cs, val, hx => by
    obtain ⟨arr, h1, h2⟩ := hx
    exact ⟨arr, h1, frzs_rep hr hb cs _ h2⟩
  | .itr _, _, hx => hx.elim
theorem frzs_rep (hr : Rep ρ X w h) (hb : h[k]? = some (.arr sz els)) : ∀ (xs : List V) (vs : List Value), RepL ρ X w xs vs → RepL (lessLoc ρ k) X w (frzL k sz els xs) vs
  | [], [], _ => trivial
  | x :: r, u :: us, hx => ⟨frz_rep hr hb x u hx.1, frzs_rep hr hb r us hx.2⟩
  | [], _ :: _, hx => hx.elim
  | _ :: _, [], hx => hx.elim
end

theorem frzB_rep (hr : Rep ρ X w h) (hb : h[k]? = some (.arr sz els)) {j : Nat} (hj : j ≠ k) {B : Blk} (hB : RepB ρ X w j B) : RepB (lessLoc ρ k) X w j (frzB k sz els B) := by
  cases B with
  | dead => simp only [RepB, frzB] at hB ⊢; rw [less_ne hj]; exact hB
  | arr s es =>
    simp only [RepB, frzB] at hB ⊢
    rw [less_ne hj]
    refine ⟨hB.1, hB.2.imp id ?_⟩
    rintro ⟨h1, c, T, h2, h3, h4, h5⟩
    exact ⟨h1, c, T, h2, h3, h4, RepEls_mono less_sta s _ rfl _ _ h5⟩
  | var cs =>
    simp only [RepB, frzB] at hB ⊢
    rw [less_ne hj]
    obtain ⟨h1, c, T, h2, h3⟩ := hB
    exact ⟨h1, c, T, h2, frzs_rep hr hb _ _ h3⟩
  | arv s es =>
    simp only [RepB, frzB] at hB ⊢
    rw [less_ne hj]
    obtain ⟨h0, h1, c, T, h2, h3, h4, h5⟩ := hB
    refine ⟨h0, h1, c, T, h2, h3, by simpa using h4, fun i e he => ?_⟩
    simp only [List.getElem?_map, Option.map_eq_some_iff] at he
    obtain ⟨e0, he0, rfl⟩ := he
    refine ⟨by rw [frzL_map, List.length_map]; exact (h5 i e0 he0).1, fun f x hx => ?_⟩
    simp only [frzL_map, List.getElem?_map, Option.map_eq_some_iff] at hx
    obtain ⟨x0, hx0, rfl⟩ := hx
    obtain ⟨u, h6, h7⟩ := (h5 i e0 he0).2 f x0 hx0
    exact ⟨u, h6, frz_rep hr hb _ _ h7⟩
  | map es cl =>
    simp only [RepB, frzB] at hB ⊢
    rw [less_ne hj]
    obtain ⟨h1, arr, h2, h3, h4⟩ := hB
    refine ⟨h1, arr, h2, by rw [h3]; simp, ?_⟩
    rw [show (List.map (fun e : Value × V × Nat => (e.1, frzV k sz els e.2.1, e.2.2)) es).map (·.2.1) = frzL k sz els (es.map (·.2.1)) by rw [frzL_map]; simp]
    exact frzs_rep hr hb _ _ h4
  | it m s sn l =>
    simp only [RepB, frzB] at hB ⊢
    rw [less_ne hj]
    obtain ⟨h1, x, h2, h3⟩ := hB
    exact ⟨h1, x, h2, frz_rep hr hb _ _ h3⟩

theorem frzRep (hr : Rep ρ X w h) (hb : h[k]? = some (.arr sz els)) : Rep (lessLoc ρ k) X w ((h.map (frzB k sz els)).set k .dead) := by
  have hkl : k < h.length := (List.getElem?_eq_some_iff.1 hb).1
  refine ⟨?_, ?_, ?_, fun b ho => hr.disj b (less_own ho), ?_, hr.xlt⟩
  · intro i j hij hi hj
    unfold lessLoc at hi hj ⊢
    split at hi
    · cases hi
    · rename_i h1
      split at hj
      · cases hj
      · rename_i h2
        rw [if_neg h1, if_neg h2]
        exact hr.inj i j hij hi hj
  · intro j hj
    simp at hj
    rw [less_ne (by omega)]
    exact hr.out j hj
  · intro j B hB
    by_cases hj : j = k
    · subst hj
      rw [List.getElem?_set_self (by simpa using hkl)] at hB
      simp only [Option.some.injEq] at hB
      subst hB
      simp [RepB, lessLoc]
    · rw [List.getElem?_set_ne (Ne.symm hj), List.getElem?_map, Option.map_eq_some_iff] at hB
      obtain ⟨B0, hB0, rfl⟩ := hB
      exact frzB_rep hr hb hj (hr.blk j B0 hB0)
  · intro j hj
    unfold lessLoc at hj ⊢
    split at hj
    · cases hj
    · rename_i h1; rw [if_neg h1]; exact hr.lt j hj

theorem live_frz {j : Nat} (hj : liveP h j) (hne : j ≠ k) : liveP ((h.map (frzB k sz els)).set k .dead) j := by
  unfold liveP at hj ⊢
  rw [List.getElem?_set_ne (Ne.symm hne), List.getElem?_map]
  cases hb : h[j]? with
  | none => rw [hb] at hj; exact hj.elim
  | some B => rw [hb] at hj; cases B <;> first | exact hj.elim | trivial
end


theorem frz1_inv {fx : List Nat} {k : Nat} {s : St} {K : St → Prop} (h : frz1 fx k (blk s.h k) s K) : K s ∨ ∃ sz els, s.h[k]? = some (.arr sz els) ∧ k ∉ fx ∧ K { s with e := frzE k sz els s.e, h := (s.h.map (frzB k sz els)).set k .dead } := by
  unfold frz1 at h
  split at h
  · rename_i sz els hb
    refine .inr ⟨sz, els, ?_, h⟩
    unfold blk at hb
    rw [List.getD_eq_getElem?_getD] at hb
    cases hk : s.h[k]? with
    | none => simp [hk] at hb
    | some B => rw [hk] at hb; simpa using hb
  · exact .inl h

/-- What is given up is shown from now on: in one world. -/
theorem frzP_rep {w : World} {t : Array Value} {fx : List Nat} {K : St → Prop} : ∀ (xs : List Nat) (s : St) (ρ : Nat → Loc), frzP fx xs s K → Rep ρ X w s.h → RepE ρ X w s.e t → (∀ k ∈ fx, liveP s.h k → True) →
    ∃ s' ρ', K s' ∧ s'.b = s.b ∧ Fr ρ w ρ' w ∧ (∀ k ∈ fx, ρ' k = ρ k) ∧ (∀ k ∈ fx, liveP s.h k → liveP s'.h k) ∧ Rep ρ' X w s'.h ∧ RepE ρ' X w s'.e t
  | [], s, ρ, h, hr, he, _ => ⟨s, ρ, h, rfl, Fr.refl _ _, fun _ _ => rfl, fun _ _ h => h, hr, he⟩
  | x :: r, s, ρ, h, hr, he, ht => by
    simp only [frzP] at h
    split at h
    · rename_i k i n hx
      rcases frz1_inv h with h | ⟨sz, els, hb, hk, h⟩
      · exact frzP_rep r s ρ h hr he ht
      · have hne : ∀ j ∈ fx, j ≠ k := fun j hj e => hk (e ▸ hj)
        obtain ⟨s', ρ', h1, h0, h2, h3, h4, h5, h6⟩ := frzP_rep r _ (lessLoc ρ k) h (frzRep hr hb) (fun i => by rw [get_frzE]; exact frz_rep hr hb _ _ (he i)) (fun _ _ _ => trivial)
        exact ⟨s', ρ', h1, h0, less_fr.trans h2, fun j hj => (h3 j hj).trans (less_ne (hne j hj)), fun j hj hl => h4 j hj (live_frz hl (hne j hj)), h5, h6⟩
    · exact frzP_rep r s ρ h hr he ht
end
end Go.Fx
