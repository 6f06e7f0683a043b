import Derived.Test.YtmddpcjkpbjkeaaT11
import Derived.Test.YtmddpcjkpbjkeaaFxLaw
set_option linter.unusedVariables false
set_option linter.unusedSimpArgs false
set_option linter.unusedSectionVars false
namespace Go.Fx.F
open Go Go.Fx Go.Proofs
theorem Fn_post {P : Program} {f : FuncId} {xs : List V} {h0 : List Blk} {mv : List Nat} {R R' : V → List Blk → Prop} (h : Fn P f xs h0 mv R) (hR : ∀ r h', R r h' → R' r h') : Fn P f xs h0 mv R' := by
  intro ρ X w vals h1 h2
  refine Calls.mono (h ρ X w vals h1 h2) ?_
  rintro e w' ⟨val, r, h', ρ', q1, q2, q3, q4, q5, q6⟩
  exact ⟨val, r, h', ρ', q1, ⟨hR r h' q2.1, q2.2⟩, q3, q4, q5, q6⟩
theorem ex_map {α β : Type} {g : α → β} : ∀ {els : List β}, (∀ x ∈ els, ∃ a, x = g a) → ∃ l : List α, els = l.map g
  | [], _ => ⟨[], rfl⟩
  | x :: r, h => by
    obtain ⟨a, rfl⟩ := h x List.mem_cons_self
    obtain ⟨l, rfl⟩ := ex_map (els := r) fun y hy => h y (List.mem_cons_of_mem _ hy)
    exact ⟨a :: l, rfl⟩
theorem wf_arc {x : List V} (h : WfT (.st [.int .i64, .int .i64, .int .i64, .int .i64]) x) : ∃ a : Arc, x = a.enc := by
  simp only [WfT, WfTs] at h
  obtain ⟨_, _, rfl, ⟨a, rfl, _⟩, _, _, rfl, ⟨b, rfl, _⟩, _, _, rfl, ⟨c, rfl, _⟩, _, _, rfl, ⟨d, rfl, _⟩, rfl⟩ := h
  exact ⟨⟨a, b, c, d⟩, rfl⟩
theorem wf_net {x : V} (h : WfV (.st [.int .i64, .sl 4 (.st [.int .i64, .int .i64, .int .i64, .int .i64])]) x) : ∃ n arcs, x = rnet n arcs := by
  obtain ⟨cs, h, rfl⟩ := h
  rw [WfTs.eq_2] at h
  obtain ⟨a, b, rfl, h1, h2⟩ := h
  rw [WfTs.eq_2] at h2
  obtain ⟨c, d, rfl, h3, h4⟩ := h2
  rw [WfTs.eq_1] at h4
  subst h4
  simp only [WfT] at h1
  obtain ⟨n, rfl, _⟩ := h1
  rw [WfT] at h3
  obtain ⟨els, rfl, _, he⟩ := h3
  obtain ⟨arcs, rfl⟩ := ex_map (fun x hx => wf_arc (he x hx))
  exact ⟨n, arcs, rfl⟩
theorem wf_int {x : V} (h : WfV (.int .i64) x) : ∃ n, x = .i n := by
  simp only [WfV, WfT] at h
  obtain ⟨n, h, _⟩ := h
  exact ⟨n, by simpa using h⟩
theorem wf_li {x : V} (h : WfV (.sl 1 (.int .i64)) x) : ∃ l, x = rli l := by
  simp only [WfV] at h
  rw [WfT] at h
  obtain ⟨els, h1, _, he⟩ := h
  obtain ⟨l, rfl⟩ := ex_map (g := encI) (fun x hx => by
    have := he x hx
    simp only [WfT] at this
    obtain ⟨n, rfl, _⟩ := this
    exact ⟨n, rfl⟩)
  exact ⟨l, by simpa [rli, rlb] using h1⟩
theorem wf_lb {x : V} (h : WfV (.sl 1 .bool) x) : ∃ l, x = rlb l := by
  simp only [WfV] at h
  rw [WfT] at h
  obtain ⟨els, h1, _, he⟩ := h
  obtain ⟨l, rfl⟩ := ex_map (g := encB) (fun x hx => by
    have := he x hx
    simp only [WfT] at this
    obtain ⟨n, rfl⟩ := this
    exact ⟨n, rfl⟩)
  exact ⟨l, by simpa [rli, rlb] using h1⟩
theorem fn8 : ∀ xs, WfA [.st [.int .i64, .sl 4 (.st [.int .i64, .int .i64, .int .i64, .int .i64])], .int .i64, .int .i64, .sl 1 (.int .i64), .sl 1 .bool] xs → Fn Try.prog 8 xs [] [] (fun r _ => r = .b true) := by
  intro xs h
  obtain ⟨x1, _, rfl, h1, h⟩ := h
  obtain ⟨x2, _, rfl, h2, h⟩ := h
  obtain ⟨x3, _, rfl, h3, h⟩ := h
  obtain ⟨x4, _, rfl, h4, h⟩ := h
  obtain ⟨x5, _, rfl, h5, h⟩ := h
  obtain rfl : _ = [] := h
  obtain ⟨n, arcs, rfl⟩ := wf_net h1
  obtain ⟨f, rfl⟩ := wf_int h2
  obtain ⟨t, rfl⟩ := wf_int h3
  obtain ⟨flow, rfl⟩ := wf_li h4
  obtain ⟨cut, rfl⟩ := wf_lb h5
  exact Fn_post (ok8 n arcs f t flow cut).2 fun r h' h => h.1
end Go.Fx.F
