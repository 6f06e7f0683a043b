import Derived.Test.YtcchjpjkhaomeaaWSan
import Derived.Test.YtcchjpjkhaomeaaFxRun
import Derived.Test.YtcchjpjkhaomeaaT31
set_option linter.unusedVariables false
set_option linter.unusedSimpArgs false
set_option linter.unusedSectionVars false
namespace Go.Fx.W
open Go Go.Fx Go.Proofs
theorem fn_of {f : FuncId} {xs : List V} (h : Ok f xs (Is (.b true))) : Fn Try.prog f xs [] [] (fun r _ => r = .b true) := by
 have h := h.2
 intro ρ X w vals h1 h2
 refine Calls.mono (h ρ X w vals h1 h2) ?_
 rintro e w' ⟨val, r, h', ρ', q1, q2, q3, q4, q5, q6⟩
 exact ⟨val, r, h', ρ', q1, ⟨q2.1.1, q2.2⟩, q3, q4, q5, q6⟩
theorem ex_mapP {α β : Type} {g : α → β} {P : α → Prop} : ∀ {els : List β}, (∀ x ∈ els, ∃ a, x = g a ∧ P a) → ∃ l : List α, els = l.map g ∧ ∀ a ∈ l, P a
 | [], _ => ⟨[], rfl, fun _ h => by cases h⟩
 | x :: r, h => by
  obtain ⟨a, rfl, ha⟩ := h x List.mem_cons_self
  obtain ⟨l, rfl, hl⟩ := ex_mapP (els := r) fun y hy => h y (List.mem_cons_of_mem _ hy)
  refine ⟨a :: l, rfl, fun b hb => ?_⟩
  rcases List.mem_cons.1 hb with rfl | hb
  ·exact ha
  ·exact hl b hb
abbrev tVary : Fx.T := .st [.str, .sl 1 .str, .str]
abbrev tVs : Fx.T := .sl 3 tVary
theorem wf_str {x : List V} (h : WfT .str x) : ∃ s : S, x = [sv s] ∧ s.length ≤ maxLen := by
 simp only [WfT] at h
 obtain ⟨b, rfl, hb⟩ := h
 obtain ⟨s, rfl⟩ := sb_ex (b := b)
 exact ⟨s, rfl, hb⟩
theorem wf_ss {x : List V} (h : WfT (.sl 1 .str) x) : ∃ l : List S, x = [ss l] ∧ ∀ s ∈ l, s.length ≤ maxLen := by
 rw [WfT] at h
 obtain ⟨els, rfl, _, he⟩ := h
 obtain ⟨l, rfl, hl⟩ := ex_mapP (g := encS) (P := fun s => s.length ≤ maxLen) fun x hx => wf_str (he x hx)
 exact ⟨l, rfl, hl⟩
theorem wf_vary {x : List V} (h : WfT tVary x) : ∃ v : Vary, x = v.enc ∧ v.Ok := by
 rw [WfT, WfTs.eq_2] at h
 obtain ⟨a, b, rfl, h1, h2⟩ := h
 rw [WfTs.eq_2] at h2
 obtain ⟨c, d, rfl, h3, h4⟩ := h2
 rw [WfTs.eq_2] at h4
 obtain ⟨e, f, rfl, h5, h6⟩ := h4
 rw [WfTs.eq_1] at h6
 subst h6
 obtain ⟨s1, rfl, g1⟩ := wf_str h1
 obtain ⟨l, rfl, g2⟩ := wf_ss h3
 obtain ⟨s2, rfl, g3⟩ := wf_str h5
 exact ⟨⟨s1, l, s2⟩, rfl, ⟨g1, g2, g3⟩⟩
theorem wf_vs {x : V} (h : WfV tVs x) : ∃ l : List Vary, x = vs l ∧ ∀ v ∈ l, v.Ok := by
 simp only [WfV] at h
 rw [WfT] at h
 obtain ⟨els, h1, _, he⟩ := h
 obtain ⟨l, rfl, hl⟩ := ex_mapP (g := Vary.enc) (P := Vary.Ok) fun x hx => wf_vary (he x hx)
 exact ⟨l, by simpa [vs] using h1, hl⟩
abbrev tHs : Fx.T := .sl 2 (.st [.str, .str])
theorem wf_hd {x : List V} (h : WfT (.st [.str, .str]) x) : ∃ v : Hd, x = v.enc := by
 rw [WfT, WfTs.eq_2] at h
 obtain ⟨a, b, rfl, h1, h2⟩ := h
 rw [WfTs.eq_2] at h2
 obtain ⟨c, d, rfl, h3, h4⟩ := h2
 rw [WfTs.eq_1] at h4
 subst h4
 obtain ⟨s1, rfl, _⟩ := wf_str h1
 obtain ⟨s2, rfl, _⟩ := wf_str h3
 exact ⟨⟨s1, s2⟩, rfl⟩
theorem wf_hs {x : V} (h : WfV tHs x) : ∃ l : List Hd, x = hs l := by
 simp only [WfV] at h
 rw [WfT] at h
 obtain ⟨els, h1, _, he⟩ := h
 obtain ⟨l, rfl, _⟩ := ex_mapP (g := Hd.enc) (P := fun _ => True) fun x hx => by
  obtain ⟨v, hv⟩ := wf_hd (he x hx)
  exact ⟨v, hv, trivial⟩
 exact ⟨l, by simpa [hs] using h1⟩
theorem fn8 : ∀ xs, WfA [tVs, tVs, tHs, tHs] xs → Fn Try.prog 8 xs [] [] (fun r _ => r = .b true) := by
 intro xs h
 obtain ⟨x1, _, rfl, h1, x2, _, rfl, h2, x3, _, rfl, h3, x4, _, rfl, h4, h⟩ := h
 obtain rfl : _ = [] := h
 obtain ⟨a, rfl, ha⟩ := wf_vs h1
 obtain ⟨b, rfl, hb⟩ := wf_vs h2
 obtain ⟨h, rfl⟩ := wf_hs h3
 obtain ⟨i, rfl⟩ := wf_hs h4
 exact fn_of (ok8 san a b ha hb h i)
end Go.Fx.W
