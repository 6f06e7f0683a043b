import Derived.Test.YtmddpcjkpbjkeaaFxAcc
import Derived.Laws.Tables
set_option linter.unusedVariables false
set_option linter.unusedSimpArgs false
set_option linter.unusedSectionVars false
namespace Go.Fx
open Go.RowKit

theorem foldl_set (off : Nat) : ∀ (l : List Value) (k : Nat) (cells : Array Value), off + k + l.length ≤ cells.size →
    ((l.zipIdx k).foldl (fun cs (x : Value × Nat) => cs.setIfInBounds (off + x.2) x.1) cells).size = cells.size ∧
    ∀ i, ((l.zipIdx k).foldl (fun cs (x : Value × Nat) => cs.setIfInBounds (off + x.2) x.1) cells)[i]? = if off + k ≤ i ∧ i < off + k + l.length then l[i - (off + k)]? else cells[i]?
  | [], k, cells, _ => ⟨rfl, fun i => by rw [if_neg (by rintro ⟨h1, h2⟩; simp at h2; omega)]; rfl⟩
  | v :: r, k, cells, h => by
    simp only [List.zipIdx_cons, List.foldl_cons]
    obtain ⟨h1, h2⟩ := foldl_set off r (k + 1) (cells.setIfInBounds (off + k) v) (by simp at h ⊢; omega)
    refine ⟨by rw [h1]; simp, fun i => ?_⟩
    rw [h2 i]
    by_cases hi : i = off + k
    · subst hi
      rw [if_neg (by omega), if_pos (by simp)]
      simp at h
      rw [Array.getElem?_setIfInBounds, if_pos rfl, if_pos (by omega)]
      simp
    · by_cases h5 : off + (k + 1) ≤ i ∧ i < off + (k + 1) + r.length
      · rw [if_pos h5, if_pos (by simp; omega)]
        obtain ⟨m, rfl⟩ : ∃ m, i = off + (k + 1) + m := ⟨i - (off + (k + 1)), by omega⟩
        rw [show off + (k + 1) + m - (off + (k + 1)) = m by omega, show off + (k + 1) + m - (off + k) = m + 1 by omega]
        simp
      · rw [if_neg h5, if_neg (by simp; omega), Array.getElem?_setIfInBounds, if_neg (by omega)]

theorem fold_cells (v : Array Value) (off : Nat) (cells : Array Value) (h : off + v.size ≤ cells.size) :
    (v.zipIdx.foldl (fun cs (x : Value × Nat) => cs.setIfInBounds (off + x.2) x.1) cells).size = cells.size ∧
    ∀ i, (v.zipIdx.foldl (fun cs (x : Value × Nat) => cs.setIfInBounds (off + x.2) x.1) cells)[i]? = if off ≤ i ∧ i < off + v.size then v[i - off]? else cells[i]? := by
  rw [← Array.foldl_toList, Array.toList_zipIdx]
  have := foldl_set off v.toList 0 cells (by simpa using h)
  simpa using this

theorem splice_get {cs new : List V} {f : Nat} (h : f + new.length ≤ cs.length) (i : Nat) : (splice cs f new)[i]? = if f ≤ i ∧ i < f + new.length then new[i - f]? else cs[i]? := by
  unfold splice
  by_cases h1 : i < f
  · rw [if_neg (by omega), List.append_assoc, List.getElem?_append_left (by simp; omega), List.getElem?_take, if_pos h1]
  · by_cases h2 : i < f + new.length
    · rw [if_pos (by omega), List.append_assoc, List.getElem?_append_right (by simp; omega), List.getElem?_append_left (by simp; omega)]
      congr 1
      simp
      omega
    · rw [if_neg (by omega), List.getElem?_append_right (by simp; omega), List.getElem?_drop]
      congr 1
      simp
      omega
theorem splice_len {cs new : List V} {f : Nat} (h : f + new.length ≤ cs.length) : (splice cs f new).length = cs.length := by
  unfold splice
  simp
  omega

section
variable {ρ : Nat → Loc} {X : Nat → Prop} {w : World}

theorem splice_rep {cs new : List V} {f : Nat} {cells v : Array Value} (h : f + new.length ≤ cs.length) (hc : RepL ρ X w cs cells.toList) (hv : RepL ρ X w new v.toList) :
    RepL ρ X w (splice cs f new) (v.zipIdx.foldl (fun cs (x : Value × Nat) => cs.setIfInBounds (f + x.2) x.1) cells).toList := by
  have hl1 := RepL_len hc
  have hl2 := RepL_len hv
  simp only [Array.length_toList] at hl1 hl2
  obtain ⟨h1, h2⟩ := fold_cells v f cells (by omega)
  refine RepL_mk (by rw [splice_len h]; show _ = Array.size _; rw [h1]; exact hl1) fun g x hx => ?_
  rw [splice_get h] at hx
  simp only [Array.getElem?_toList, h2]
  split at hx
  · rename_i hg
    rw [if_pos (by omega)]
    obtain ⟨u, h3, h4⟩ := RepL_get hv hx
    exact ⟨u, by simpa using h3, h4⟩
  · rename_i hg
    rw [if_neg (by omega)]
    obtain ⟨u, h3, h4⟩ := RepL_get hc hx
    exact ⟨u, by simpa using h3, h4⟩

theorem optK_inv {α : Type} {o : Option α} {K : α → Prop} (h : optK o K) : ∃ x, o = some x ∧ K x := by
  unfold optK at h
  split at h
  · exact ⟨_, rfl, h⟩
  · exact h.elim

theorem fill_build {e : Env} {a : Act} (he : RepE ρ X w e a.tmps) {place : Nat → Option (Nat × Nat)} {K : V → Prop} : ∀ (parts : List (Nat × Operand)) (ps : List (Nat × Nat × Operand)) (acc : List V) (cells : Array Value),
    parts.mapM (fun p => (place p.1).map fun os => (os.1, os.2, p.2)) = some ps → RepL ρ X w acc cells.toList → buildP e acc ps K →
      ∃ y cells', K (.agg y) ∧ Instr.fill place cells (parts.map fun p => (p.1, a.eval p.2)) = some cells' ∧ RepL ρ X w y cells'.toList
  | [], ps, acc, cells, hm, ha, hk => by
    simp at hm
    subst hm
    exact ⟨acc, cells, hk, rfl, ha⟩
  | (i, x) :: r, ps, acc, cells, hm, ha, hk => by
    simp only [List.mapM_cons, Option.bind_eq_bind, Option.pure_def] at hm
    cases hp : place i with
    | none => simp [hp] at hm
    | some os =>
      obtain ⟨off, sz⟩ := os
      cases hr : r.mapM (fun p => (place p.1).map fun os => (os.1, os.2, p.2)) with
      | none => simp [hp, hr] at hm
      | some ps' =>
        simp [hp, hr] at hm
        subst hm
        obtain ⟨cs, h1, ⟨h2, h3⟩, h4⟩ := optK_inv hk
        have hx := cells_rep h1 (ev_rep he x)
        have hl := RepL_len hx
        have hl1 := RepL_len ha
        simp only [Array.length_toList] at hl hl1
        obtain ⟨y, cells', h5, h6, h7⟩ := fill_build he r ps' _ _ hr (splice_rep (by omega) ha hx) h4
        refine ⟨y, cells', h5, ?_, h7⟩
        simp only [List.map_cons, Instr.fill, hp]
        rw [if_neg (by simp; omega)]
        exact h6
end
end Go.Fx
