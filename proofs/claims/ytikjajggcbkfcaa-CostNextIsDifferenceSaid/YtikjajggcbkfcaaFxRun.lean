import Derived.Test.YtikjajggcbkfcaaFxRnd7
import Derived.Sort.LoopGhostIn
import Derived.Test.YtikjajggcbkfcaaFxFrz
import Derived.OpenShut
import Derived.ChangeOld
import Derived.Below
import Derived.ProofKit
import Derived.JoinedCond
set_option linter.unusedVariables false
set_option linter.unusedSimpArgs false
set_option linter.unusedSectionVars false
namespace Go.Fx
open Go.RowKit
section
variable {P : Program} {X : Nat → Prop} {N : Nat}
theorem frz_in {cx : Cx} {a : Act} {w : World} {K : St → Prop} {ρ0 : Nat → Loc} {w0 : World} (xs : List Nat) (s : St) (h : frzP cx.fx xs s K) (hg : Good ρ0 X w0 cx.fx N s a w) : ∃ s', K s' ∧ Good ρ0 X w0 cx.fx N s' a w := frzP_good xs s h hg
theorem aw_sound (hP : P.follows .mixedOrders = true) : ∀ c : Code, SndC P X N c := by
  intro c
  induction c with
  | skip =>
    intro l0 l hm r cx ρ0 w0 hcx hrd hro hy Q Nn Xx Rr hQo hN hX hR s a w h hg
    simp only [rlC, Option.some.injEq] at hm
    subst hm
    exact wpIn_skip (hN s a w h hg)
  | ret =>
    intro l0 l hm r cx ρ0 w0 hcx hrd hro hy Q Nn Xx Rr hQo hN hX hR s a w h hg
    simp only [rlC, Option.some.injEq] at hm
    subst hm
    exact wpIn_ret (hR s a w h hg)
  | label i =>
    intro l0 l hm r cx ρ0 w0 hcx hrd hro hy Q Nn Xx Rr hQo hN hX hR s a w h hg
    simp only [rlC, Option.some.injEq] at hm
    subst hm
    exact wpIn_label (hN s a w h hg)
  | exit i =>
    intro l0 l hm r cx ρ0 w0 hcx hrd hro hy Q Nn Xx Rr hQo hN hX hR s a w h hg
    simp only [rlC, Option.some.injEq] at hm
    subst hm
    exact wpIn_exit (hX i s a w h hg)
  | region id ops draw =>
    intro l0 l hm r cx ρ0 w0 hcx hrd hro hy Q Nn Xx Rr hQo hN hX hR s a w h hg
    have hd : r = none ∨ ops.toList.all notDefer = true := hrd.imp (fun h => h) fun h => h.1
    simp only [rlC] at hm
    split at hm
    · split at hm
      · rename_i x hr
        simp only [Option.some.injEq] at hm
        subst hm
        exact wpIn_region_list (listIn hQo _ (hd.imp (fun h => h) fun h => List.all_eq_true.1 h) _ _ (aOps_sound hcx rfl hN _ _ _ _ a w hr (hg.reserve _ _) h))
      · cases hm
    · split at hm
      · rename_i x hr
        split at hm
        · rename_i hc
          simp only [Bool.and_eq_true] at hc
          simp only [Option.some.injEq] at hm
          subst hm
          rcases hrd with rfl | hrd
          · exact (wpIn_wide (n := 0)).2 (qui_sound hP hN hr hc.1 hc.2 (hg.reserve _ _) h)
          · exact absurd hrd.2 (by simp [inRd])
        · cases hm
      · cases hm
    · split at hm
      · rename_i x hr
        split at hm
        · rename_i hc
          simp only [Bool.and_eq_true] at hc
          simp only [Option.some.injEq] at hm
          subst hm
          rcases hrd with rfl | hrd
          · exact (wpIn_wide (n := 0)).2 (tail_sound hP hcx rfl hN hr hc.1 hc.2 (hg.reserve _ _) h)
          · exact absurd hrd.2 (by simp [inRd])
        · cases hm
      · cases hm
    · split at hm
      · rename_i x hr
        simp only [Option.some.injEq] at hm
        subst hm
        exact tree_in hP hcx hQo hN hd hr (hg.reserve _ _) h
      · cases hm
    · split at hm
      · rename_i x hr
        split at hm
        · rename_i hc
          simp only [Option.some.injEq] at hm
          subst hm
          rcases hrd with rfl | hrd
          · cases draw with
            | false => exact wpIn_region_list (aOpsY_sound hcx hy hN _ _ _ _ a w hr (hg.reserve _ _) h)
            | true =>
              simp only [Bool.not_true, Bool.false_or, Bool.and_eq_true] at hc
              exact yreg_in hP hcx hy hQo hN hr hc.1 hc.2 (hg.reserve _ _) h
          · exact absurd hrd.2 (by simp [inRd])
        · cases hm
      · cases hm
    · simp only [Option.some.injEq] at hm
      subst hm
      exact h.elim
    · cases hm
  | seq a b iha ihb =>
    intro l0 l hm r cx ρ0 w0 hcx hrd hro hy Q Nn Xx Rr hQo hN hX hR s ac w h hg
    simp only [rlC] at hm
    split at hm
    · split at hm
      · rename_i x' y' h1 h2
        simp only [Option.some.injEq] at hm
        subst hm
        have hra : r = none ∨ (codeRd a = true ∧ inRd x' = true) := hrd.imp (fun h => h) fun h => by simp only [codeRd, inRd, Bool.and_eq_true] at h; exact ⟨h.1.1, h.2.1⟩
        have hrb : r = none ∨ (codeRd b = true ∧ inRd y' = true) := hrd.imp (fun h => h) fun h => by simp only [codeRd, inRd, Bool.and_eq_true] at h; exact ⟨h.1.2, h.2.2⟩
        refine wpIn_seq (iha _ _ h1 r cx ρ0 w0 hcx hra hro hy _ (fun s' => aw cx y' Nn Xx Rr s') Xx Rr (LetsOut_then hQo) ?_ ?_ ?_ s ac w h hg)
        · intro s' a' w' h' hg'
          exact ihb _ _ h2 r cx ρ0 w0 hcx hrb hro hy Q Nn Xx Rr hQo hN hX hR s' a' w' h' hg'
        · exact hX
        · exact hR
      · cases hm
    · split at hm
      · rename_i x' y' h1 h2
        simp only [Option.some.injEq] at hm
        subst hm
        have hra : r = none ∨ (codeRd a = true ∧ inRd x' = true) := hrd.imp (fun h => h) fun h => by simp only [codeRd, inRd, Bool.and_eq_true] at h; exact ⟨h.1.1, h.2.1⟩
        have hrb : r = none ∨ (codeRd b = true ∧ inRd y' = true) := hrd.imp (fun h => h) fun h => by simp only [codeRd, inRd, Bool.and_eq_true] at h; exact ⟨h.1.2, h.2.2⟩
        simp only [aw] at h
        obtain ⟨s1, h, hg⟩ := frz_in _ s h hg
        refine wpIn_seq (iha _ _ h1 r cx ρ0 w0 hcx hra hro hy _ (fun s' => aw cx y' Nn Xx Rr s') Xx Rr (LetsOut_then hQo) ?_ ?_ ?_ s1 ac w h hg)
        · intro s' a' w' h' hg'
          exact ihb _ _ h2 r cx ρ0 w0 hcx hrb hro hy Q Nn Xx Rr hQo hN hX hR s' a' w' h' hg'
        · exact hX
        · exact hR
      · cases hm
    · simp only [Option.some.injEq] at hm
      subst hm
      exact h.elim
    · cases hm
  | cond c a b iha ihb =>
    intro l0 l hm r cx ρ0 w0 hcx hrd hro hy Q Nn Xx Rr hQo hN hX hR s ac w h hg
    simp only [rlC] at hm
    split at hm
    · split at hm
      · rename_i x' y' h1 h2
        simp only [Option.some.injEq] at hm
        subst hm
        have hra : r = none ∨ (codeRd a = true ∧ inRd x' = true) := hrd.imp (fun h => h) fun h => by simp only [codeRd, inRd, Bool.and_eq_true] at h; exact ⟨h.1.1, h.2.1⟩
        have hrb : r = none ∨ (codeRd b = true ∧ inRd y' = true) := hrd.imp (fun h => h) fun h => by simp only [codeRd, inRd, Bool.and_eq_true] at h; exact ⟨h.1.2, h.2.2⟩
        simp only [aw] at h
        obtain ⟨t, ht, hA, hB⟩ := brV_inv h
        have hev : ac.eval c = .bool t := by
          obtain ⟨ρ, _, ⟨_, he⟩, _⟩ := hg
          have := ev_rep he c
          rw [ht] at this
          exact this
        refine wpIn_cond hev ?_
        cases t
        · exact ihb _ _ h2 r cx ρ0 w0 hcx hrb hro hy Q Nn Xx Rr hQo hN hX hR s ac w (hB rfl) hg
        · exact iha _ _ h1 r cx ρ0 w0 hcx hra hro hy Q Nn Xx Rr hQo hN hX hR s ac w (hA rfl) hg
      · cases hm
    · cases hm
  | block i a iha =>
    intro l0 l hm r cx ρ0 w0 hcx hrd hro hy Q Nn Xx Rr hQo hN hX hR s ac w h hg
    simp only [rlC] at hm
    split at hm
    · split at hm
      · rename_i x' h1
        simp only [Option.some.injEq] at hm
        subst hm
        refine wpIn_block (iha _ _ h1 r cx ρ0 w0 hcx hrd hro hy (Exit.inBlock i Q) Nn (fun j s' => if j = i then Nn s' else Xx j s') Rr (fun ⟨a, w, hq⟩ => hQo ⟨a, w, hq⟩) ?_ ?_ ?_ s ac w h hg)
        · exact hN
        · intro j s' a' w' h' hg'
          show if j = i then _ else _
          split at h'
          · rename_i hj; rw [if_pos hj]; exact hN s' a' w' h' hg'
          · rename_i hj; rw [if_neg hj]; exact hX j s' a' w' h' hg'
        · exact hR
      · cases hm
    · cases hm
  | loop a iha =>
    intro l0 l hm r cx ρ0 w0 hcx hrd hro hy Q Nn Xx Rr hQo hN hX hR s ac w h hg
    simp only [rlC] at hm
    split at hm
    · split at hm
      · rename_i x' h1
        simp only [Option.some.injEq] at hm
        subst hm
        obtain ⟨G, pat, I, μ, L, hL, ⟨g, hI, hle⟩, hround⟩ := h
        refine wpIn_loop_ghost (fun n a w => ∃ g, (I g ∧ μ g = n) ∧ Good ρ0 X w0 cx.fx N (pat g) a w) (μ g) ⟨g, ⟨hI, rfl⟩, hg.leG hle⟩ ?_
        rintro n a' w' ⟨g', ⟨hI', rfl⟩, hg'⟩
        refine iha _ _ h1 r cx ρ0 w0 hcx hrd hro hy _ _ Xx Rr (LetsOut_then hQo) ?_ ?_ ?_ (pat g') a' w' (hround g' hI') hg'
        · rintro s' a'' w'' ⟨g'', ⟨hI'', hlt⟩, hle''⟩ hg''
          exact ⟨μ g'', hlt, g'', ⟨hI'', rfl⟩, hg''.leG (hL _ _ hle'')⟩
        · exact hX
        · exact hR
      · cases hm
    · cases hm
  | rangeFunc g ps asg body iha ihb => exact rfn_ok iha ihb
  | scope c ih =>
    intro l0 l hm r cx ρ0 w0 hcx hrd hro hy Q Nn Xx Rr hQo hN hX hR s a w h hg
    simp only [rlC] at hm
    rcases hrd with rfl | hrd
    · exact (wpIn_wide (n := 0)).2 (wp_scope_straight ((wpIn_wide (n := 0)).1 (ih l0 l hm none cx ρ0 w0 hcx (.inl rfl) hro hy (Exit.noGoto Q) Nn Xx Rr (fun ⟨a, w, hq⟩ => hQo ⟨a, w, hq⟩) hN hX hR s a w h hg)))
    · exact absurd hrd.1 (by simp [codeRd])
  | _ => intro l0 l hm; simp [rlC] at hm
end
end Go.Fx
namespace Go.Fx
open Go.RowKit
section
variable {X : Nat → Prop} {ρ : Nat → Loc} {w w' : World}
mutual
theorem RepD_cell {S S' : Nat → Prop} (hS : ∀ b, S b → S' b) (hc : ∀ b o, w'.cell? ⟨b, o, none⟩ = w.cell? ⟨b, o, none⟩) : ∀ (x : V) (val : Value), RepD S w x val → RepD S' w' x val
  | .v _, _, h => h
  | .ro sz els, val, h => by
    obtain ⟨a, len, cap, h1, h2, h3, h4, h5⟩ := h
    refine ⟨a, len, cap, h1, h2, h3, h4, h5.imp id ?_⟩
    rintro ⟨b, off, h6, h7, h8⟩
    exact ⟨b, off, h6, hS b h7, RepEls_cell hS hc sz b off els h8⟩
  | .any, _, h | .bro _ _, _, h | .full _ _, _, h | .sl _ _ _, _, h | .ptr _ _ _, _, h | .rp _ _ _ _, _, h | .agg _, _, h | .tup _, _, h | .clo _ _, _, h | .mp _, _, h | .itr _, _, h => h.elim
theorem RepEls_cell {S S' : Nat → Prop} (hS : ∀ b, S b → S' b) (hc : ∀ b o, w'.cell? ⟨b, o, none⟩ = w.cell? ⟨b, o, none⟩) (sz b : Nat) : ∀ (off : Nat) (els : List (List V)), RepEls S w sz b off els → RepEls S' w' sz b off els
  | _, [], _ => trivial
  | off, e :: r, h => ⟨⟨h.1.1, RepCs_cell hS hc b off e h.1.2⟩, RepEls_cell hS hc sz b (off + sz) r h.2⟩
theorem RepCs_cell {S S' : Nat → Prop} (hS : ∀ b, S b → S' b) (hc : ∀ b o, w'.cell? ⟨b, o, none⟩ = w.cell? ⟨b, o, none⟩) (b : Nat) : ∀ (off : Nat) (cs : List V), RepCs S w b off cs → RepCs S' w' b off cs
  | _, [], _ => trivial
  | off, x :: r, h => ⟨by obtain ⟨⟨val, h1, h2⟩, _⟩ := h; exact ⟨val, (hc b off).trans h1, RepD_cell hS hc x val h2⟩, RepCs_cell hS hc b (off + 1) r h.2⟩
end
mutual
theorem RepV_cell (hs : w'.heap.size = w.heap.size) (hc : ∀ b o, w'.cell? ⟨b, o, none⟩ = w.cell? ⟨b, o, none⟩) : ∀ (x : V) (val : Value), RepV ρ X w x val → RepV ρ X w' x val
  | .any, _, _ => trivial
  | .v _, _, h => h
  | .ro sz els, val, h => RepD_cell (fun b hb => ⟨hs ▸ hb.1, hb.2⟩) hc (.ro sz els) val h
  | .bro sz els, val, h => by
    obtain ⟨a, len, cap, h1, h2, h3, h4, h5⟩ := h
    refine ⟨a, len, cap, h1, h2, h3, h4, h5.imp id ?_⟩
    rintro ⟨b, off, h6, h7, h8⟩
    exact ⟨b, off, h6, ⟨hs ▸ h7.1, h7.2⟩, RepEls_cell (fun b hb => ⟨hs ▸ hb.1, hb.2⟩) hc sz b off els h8⟩
  | .full sz els, val, h => by
    obtain ⟨a, len, h1, h2, h4, h5⟩ := h
    refine ⟨a, len, h1, h2, h4, h5.imp id ?_⟩
    rintro ⟨b, off, h6, h7, h8⟩
    exact ⟨b, off, h6, ⟨hs ▸ h7.1, h7.2⟩, RepEls_cell (fun b hb => ⟨hs ▸ hb.1, hb.2⟩) hc sz b off els h8⟩
  | .sl _ _ _, _, h => h
  | .ptr _ _ _, _, h => h
  | .rp sz els i f, val, h => by
    obtain ⟨b, off, h6, h7, h8⟩ := h
    exact ⟨b, off, h6, ⟨hs ▸ h7.1, h7.2⟩, RepEls_cell (fun b hb => ⟨hs ▸ hb.1, hb.2⟩) hc sz b off els h8⟩
  | .agg cs, val, h => by
    obtain ⟨arr, h1, h2⟩ := h
    exact ⟨arr, h1, RepL_cell hs hc cs arr.toList h2⟩
  | .tup cs, val, h => by
    obtain ⟨arr, h1, h2⟩ := h
    exact ⟨arr, h1, RepL_cell hs hc cs arr.toList h2⟩
  | .clo f cs, val, h => by
    obtain ⟨arr, h1, h2⟩ := h
    exact ⟨arr, h1, RepL_cell hs hc cs arr.toList h2⟩
  | .mp _, _, h => h
  | .itr _, _, h => h
theorem RepL_cell (hs : w'.heap.size = w.heap.size) (hc : ∀ b o, w'.cell? ⟨b, o, none⟩ = w.cell? ⟨b, o, none⟩) : ∀ (xs : List V) (vs : List Value), RepL ρ X w xs vs → RepL ρ X w' xs vs
  | [], [], _ => trivial
  | x :: r, u :: us, h => ⟨RepV_cell hs hc x u h.1, RepL_cell hs hc r us h.2⟩
  | [], _ :: _, h => h.elim
  | _ :: _, [], h => h.elim
end
theorem RepB_cell (hs : w'.heap.size = w.heap.size) (hc : ∀ b o, w'.cell? ⟨b, o, none⟩ = w.cell? ⟨b, o, none⟩) {k : Nat} (hb : (ρ k).real = true → w'.heap[(ρ k).blk]? = w.heap[(ρ k).blk]?) {B : Blk} (h : RepB ρ X w k B) : RepB ρ X w' k B := by
  cases B with
  | dead => exact h
  | arr sz els =>
    refine ⟨h.1, h.2.imp id ?_⟩
    rintro ⟨h1, c, T, h2, h3, h4, h5⟩
    exact ⟨h1, c, T, (hb h1).trans h2, h3, h4, RepEls_cell (fun b hb => ⟨hs ▸ hb.1, hb.2⟩) hc sz _ _ _ h5⟩
  | var cs =>
    obtain ⟨h1, c, T, h2, h3⟩ := h
    exact ⟨h1, c, T, (hb h1.1).trans h2, RepL_cell hs hc _ _ h3⟩
  | arv sz els =>
    obtain ⟨h0, h1, c, T, h2, h3, h4, h5⟩ := h
    refine ⟨h0, h1, c, T, (hb h1).trans h2, h3, h4, fun i e he => ⟨(h5 i e he).1, fun f x hx => ?_⟩⟩
    obtain ⟨u, h6, h7⟩ := (h5 i e he).2 f x hx
    exact ⟨u, h6, RepV_cell hs hc _ _ h7⟩
  | map es cl =>
    obtain ⟨h1, arr, h2, h3, h4⟩ := h
    exact ⟨h1, arr, (hb h1.1).trans h2, h3, RepL_cell hs hc _ _ h4⟩
  | it m s sn l =>
    obtain ⟨h1, x, h2, h3⟩ := h
    exact ⟨h1, x, (hb h1.1).trans h2, RepV_cell hs hc _ _ h3⟩
  | rcd t e => exact ⟨recOk_mono hb h.1, fun i => RepV_cell hs hc _ _ (h.2 i)⟩
variable {ρ0 : Nat → Loc} {w0 : World} {fx : List Nat} {N : Nat}
theorem Good.takeD {s : St} {a : Act} {w : World} {D : Nat} {ds : List Deferred} (hg : Good ρ0 X w0 fx N s a w) (hd : a.defers = markOf D :: ds) :
    w.heap[D]? = some (.deferred (some [])) ∧ Good ρ0 X w0 fx N s { a with defers := ds } (w.putObj D (.deferred none)) := by
  obtain ⟨ρ, ⟨⟨hf, h1⟩, hk⟩, ⟨hr, he⟩, h5, Ds, ⟨hDs, hnd⟩, hM⟩ := hg
  rw [hd] at hDs
  cases Ds with
  | nil => simp at hDs
  | cons D' Ds =>
    simp only [List.map_cons, List.cons.injEq, markOf, Deferred.mk.injEq, Target.collected.injEq, and_true] at hDs
    obtain ⟨rfl, hDs⟩ := hDs
    obtain ⟨⟨g1, g2⟩, g3, g4⟩ := hM D List.mem_cons_self
    refine ⟨g4, ?_⟩
    have hoth : ∀ b, b ≠ D → (w.putObj D (.deferred none)).heap[b]? = w.heap[b]? := fun b hb => World.putObj_heap_other hb
    have hs : (w.putObj D (.deferred none)).heap.size = w.heap.size := World.putObj_size
    have hc : ∀ b o, (w.putObj D (.deferred none)).cell? ⟨b, o, none⟩ = w.cell? ⟨b, o, none⟩ := by
      intro b o
      by_cases hb : b = D
      · subst hb
        simp [World.cell?, World.putObj_heap_same g2, g4]
      · exact cell_of_heap (hoth b hb)
    have hown : ∀ k, (ρ k).real = true → (ρ k).blk ≠ D := fun k hk e => g3 ⟨k, hk, e⟩
    refine ⟨ρ, ⟨⟨⟨hf.os, hf.tape, hf.output, by rw [hs]; exact hf.size, fun b hb ho => ⟨(hoth b (by omega)).trans (hf.keep b hb ho).1, (hf.keep b hb ho).2⟩⟩, h1⟩, hk⟩,
      ⟨⟨hr.inj, hr.out, fun k B hB => RepB_cell hs hc (fun hk => hoth _ (hown k hk)) (hr.blk k B hB), hr.disj, fun k hk => by rw [hs]; exact hr.lt k hk, fun b hb => by rw [hs]; exact hr.xlt b hb⟩, fun i => RepV_cell hs hc _ _ (he i)⟩,
      h5, Ds, ⟨hDs, (List.nodup_cons.1 hnd).2⟩, fun E hE => ?_⟩
    obtain ⟨⟨k1, k2⟩, k3, k4⟩ := hM E (List.mem_cons_of_mem _ hE)
    have hne : E ≠ D := fun e => (List.nodup_cons.1 hnd).1 (e ▸ hE)
    exact ⟨⟨k1, by rw [hs]; exact k2⟩, k3, (hoth E hne).trans k4⟩
theorem leaves_of {P : Program} {fn : Func} {R : Ending → World → Prop} {s : St} (hend : ∀ (a : Act) (w : World), Good ρ0 X w0 fx N s a w → ∃ v, (results fn a.tmps).run P w = .ok v w ∧ R (.returned v) w) :
    ∀ (ds : List Deferred) (a : Act) (w : World), a.defers = ds → Good ρ0 X w0 fx N s a w → LeavesInM Fence.wide 0 P fn a.tmps R ds .returning w
  | [], a, w, _, hg => hend a w hg
  | d :: ds, a, w, hd, hg => by
    have hg' := hg
    obtain ⟨ρ, _, _, _, Ds, ⟨hDs, _⟩, _⟩ := hg'
    rw [hd] at hDs
    cases Ds with
    | nil => simp at hDs
    | cons D Ds =>
      simp only [List.map_cons, List.cons.injEq] at hDs
      obtain ⟨rfl, hDs⟩ := hDs
      obtain ⟨h1, h2⟩ := hg.takeD hd
      exact ⟨by simp, .inl ⟨D, _, rfl, run_takeDeferred h1, leaves_of hend ds { a with defers := ds } _ rfl h2⟩⟩
end
end Go.Fx
namespace Go.Fx
open Go.RowKit
def rlRes1 (P : Program) : ResultVar → Option LRes
  | .tmp t => some (.tmp t)
  | .cell a t => match P.info? t, P.underlying t with
    | some i, some d => some (.cell a (if d.isRow then some i.size else none))
    | _, _ => none
def rlRes (P : Program) : List ResultVar → Option (List LRes)
  | [] => some []
  | r :: rs => match rlRes1 P r, rlRes P rs with
    | some x, some xs => some (x :: xs)
    | _, _ => none
def resRun (tmps : Array Value) : ResultVar → Sem Value
  | .tmp t => pure (tmps.getD t undef)
  | .cell a t => do loadVar t (← asAddr (tmps.getD a undef))
def tupU : List Value → Value
  | [u] => u
  | us => .tuple us.toArray
section
variable {P : Program} {ρ : Nat → Loc} {X : Nat → Prop} {w : World}
def ResL (P : Program) (w : World) (tmps : Array Value) : List ResultVar → List Value → Prop
  | [], [] => True
  | r :: rs, u :: us => (resRun tmps r).run P w = .ok u w ∧ ResL P w tmps rs us
  | _, _ => False
theorem results_run {fn : Func} {tmps : Array Value} {us : List Value} (hn : fn.results.toList.length ≤ 4) (h : ResL P w tmps fn.results.toList us) :
    (results fn tmps).run P w = .ok (tupU us) w := by
  have hr : fn.results = fn.results.toList.toArray := by simp
  have hres : results fn tmps = (do
      let vs ← fn.results.toList.toArray.mapM (resRun tmps)
      pure (if h : vs.size = 1 then vs[0] else .tuple vs)) := by
    unfold results
    rw [← hr]
    congr 1
  rw [hres]
  generalize fn.results.toList = l at h hn
  match l, us, h, hn with
  | [], [], _, _ => simp [tupU]
  | [a], [u], ⟨h1, _⟩, _ => simp [h1, tupU]
  | [a, b], [u, v], ⟨h1, h2, _⟩, _ => simp [h1, h2, tupU]
  | [a, b, c], [u, v, x], ⟨h1, h2, h3, _⟩, _ => simp [h1, h2, h3, tupU]
  | [a, b, c, d], [u, v, x, y], ⟨h1, h2, h3, h4, _⟩, _ => simp [h1, h2, h3, h4, tupU]
  | _ :: _ :: _ :: _ :: _ :: _, _, _, hn => simp at hn
  | [], _ :: _, h, _ => exact h.elim
  | [_], [], h, _ => exact h.elim
  | [_], _ :: _ :: _, h, _ => exact h.2.elim
  | [_, _], [], h, _ => exact h.elim
  | [_, _], [_], h, _ => exact h.2.elim
  | [_, _], _ :: _ :: _ :: _, h, _ => exact h.2.2.elim
  | [_, _, _], [], h, _ => exact h.elim
  | [_, _, _], [_], h, _ => exact h.2.elim
  | [_, _, _], [_, _], h, _ => exact h.2.2.elim
  | [_, _, _], _ :: _ :: _ :: _ :: _, h, _ => exact h.2.2.2.elim
  | [_, _, _, _], [], h, _ => exact h.elim
  | [_, _, _, _], [_], h, _ => exact h.2.elim
  | [_, _, _, _], [_, _], h, _ => exact h.2.2.elim
  | [_, _, _, _], [_, _, _], h, _ => exact h.2.2.2.elim
  | [_, _, _, _], _ :: _ :: _ :: _ :: _ :: _, h, _ => exact h.2.2.2.2.elim
theorem resP_run {h : List Blk} {e : Env} {tmps : Array Value} (hr : Rep ρ X w h) (he : RepE ρ X w e tmps) {K : List V → Prop} :
    ∀ (rs : List ResultVar) (ls : List LRes) (acc : List V) (us : List Value), rlRes P rs = some ls → RepL ρ X w acc us → resP h e ls acc K →
      ∃ xs vs, K (acc.reverse ++ xs) ∧ RepL ρ X w xs vs ∧ ResL P w tmps rs vs
  | [], ls, acc, us, hm, ha, hk => by
    simp only [rlRes, Option.some.injEq] at hm
    subst hm
    exact ⟨[], [], by simpa [resP] using hk, trivial, trivial⟩
  | r :: rs, ls, acc, us, hm, ha, hk => by
    simp only [rlRes] at hm
    split at hm
    · rename_i x xs hx hxs
      simp only [Option.some.injEq] at hm
      subst hm
      cases r with
      | tmp t =>
        simp only [rlRes1, Option.some.injEq] at hx
        subst hx
        obtain ⟨ys, vs, h1, h2, h3⟩ := resP_run hr he rs xs (get e t :: acc) (tmps.getD t undef :: us) hxs ⟨he t, ha⟩ hk
        exact ⟨get e t :: ys, tmps.getD t undef :: vs, by simpa using h1, ⟨he t, h2⟩, rfl, h3⟩
      | cell a t =>
        simp only [rlRes1] at hx
        split at hx
        · rename_i inf d hi hu
          simp only [Option.some.injEq] at hx
          subst hx
          simp only [resP] at hk
          obtain ⟨y, val, h1, h2, h3⟩ := load_run hr hi hu rfl (he a) hk
          obtain ⟨ys, vs, h4, h5, h6⟩ := resP_run hr he rs xs (y :: acc) (val :: us) hxs ⟨h2, ha⟩ h1
          refine ⟨y :: ys, val :: vs, by simpa using h4, ⟨h2, h5⟩, ?_, h6⟩
          have h7 := h3 w (Ext.refl w)
          have hp := he a
          have hptr : ∃ ad, tmps.getD a undef = .pointer (some ad) := by
            revert hk
            unfold loadP
            split
            · rename_i k i f hv; intro _; rw [hv] at hp; exact ⟨_, hp.2⟩
            · rename_i sz els i f hv; intro _; rw [hv] at hp; obtain ⟨b, off, h8, _⟩ := hp; exact ⟨_, h8⟩
            · intro hk; exact hk.elim
          obtain ⟨ad, had⟩ := hptr
          rw [had] at h7
          simp only [resRun, had, asAddr, Sem.run_bind, Sem.run_pure, Result.andThen_ok]
          simpa [Instr.loadAt, Instr.sureAddr] using h7
        · cases hx
    · cases hm
theorem tup_rep {xs : List V} {us : List Value} (h : RepL ρ X w xs us) : RepV ρ X w (tupV xs) (tupU us) := by
  match xs, us, h with
  | [], [], _ => exact ⟨#[], rfl, trivial⟩
  | [x], [u], h => exact h.1
  | x :: y :: r, u :: v :: s, h => exact ⟨(u :: v :: s).toArray, rfl, h⟩
  | [_], _ :: _ :: _, h => exact h.2.elim
  | _ :: _ :: _, [_], h => exact h.2.elim
  | [], _ :: _, h => exact h.elim
  | _ :: _, [], h => exact h.elim
theorem args0_get : ∀ (i : Nat) (xs : List V) (j : Nat), get (args0 i xs) j = if i ≤ j then (xs[j - i]?).getD .any else .any
  | i, [], j => by simp [args0, get]
  | i, x :: r, j => by
    simp only [args0, get]
    by_cases h : j = i
    · subst h; simp
    · rw [if_neg h, args0_get (i + 1) r j]
      by_cases h2 : i + 1 ≤ j
      · rw [if_pos h2, if_pos (by omega)]
        rw [show j - i = (j - (i + 1)) + 1 by omega]
        simp
      · rw [if_neg h2, if_neg (by omega)]
theorem args0_rep {xs : List V} {vals : List Value} (h : RepL ρ X w xs vals) (n : Nat) : RepE ρ X w (args0 0 xs) (vals.toArray ++ Array.replicate n undef) := by
  intro i
  rw [args0_get]
  simp only [Nat.zero_le, if_true, Nat.sub_zero]
  cases hx : xs[i]? with
  | none => trivial
  | some x =>
    obtain ⟨v, h1, h2⟩ := RepL_get h hx
    have hi : i < vals.length := (List.getElem?_eq_some_iff.1 h1).1
    have : (vals.toArray ++ Array.replicate n undef).getD i undef = v := by
      rw [Array.getD_eq_getD_getElem?, Array.getElem?_append_left (by simpa using hi)]
      simp [h1]
    rw [this]
    exact h2
theorem Fn_of (hP : P.follows .mixedOrders = true) {cx : Cx} (hcx : cx.ok P) {f : FuncId} {fn : Func} {c : Code} {l0 l : LCode} {rs : List LRes} (hf : P.funcs[f]? = some fn) (hb : fn.body = some c)
    (hm : rlC P fn.ntmps c l0 = some l) (hres : rlRes P fn.results.toList = some rs) (h4 : fn.results.toList.length ≤ 4) {args : List V} {h0 : List Blk} {mv : List Nat} {R : V → List Blk → Prop}
    (hlen : args.length ≤ fn.ntmps) (hfx : keepP cx.fx h0) (hmv : ∀ k, k < h0.length → k ∉ mv → k ∈ cx.fx)
    (h : aw cx l (retP cx.fx h0.length rs R) (fun _ _ => False) (retP cx.fx h0.length rs R) ⟨args0 0 args, h0, 0⟩) (hy : cx.y = fun _ _ _ _ => False := by rfl) (hk : cx.rk = none := by rfl) : Fn P f args h0 mv R := by
  intro ρ X w vals hr ha
  have hvl := RepL_len ha
  refine (callsIn_wide (n := 0)).1 (callsIn_of_wp_marks hf hb trivial ?_)
  have hg : Good ρ X w cx.fx fn.ntmps ⟨args0 0 args, h0, 0⟩ { tmps := vals.toArray ++ Array.replicate (fn.ntmps - vals.toArray.size) undef, defers := [] } w :=
    ⟨ρ, ⟨⟨Fr.refl _ _, fun _ _ => rfl⟩, hfx⟩, ⟨hr, args0_rep ha _⟩, by simp; omega, Marks.nil⟩
  have hend : ∀ s, retP cx.fx h0.length rs R s → ∀ a w', Good ρ X w cx.fx fn.ntmps s a w' → ∃ v, (results fn a.tmps).run P w' = .ok v w' ∧ ∃ val r h' ρ', Ending.returned v = .returned val ∧ (R r h' ∧ h0.length ≤ h'.length) ∧ Fr ρ w ρ' w' ∧ Rep ρ' X w' h' ∧ RepV ρ' X w' r val ∧
      ∀ k, k < h0.length → k ∉ mv → ρ' k = ρ k := by
    intro s hret a w' hgood
    obtain ⟨ρ', ⟨⟨hf1, hfx1⟩, hk1⟩, ⟨hr1, he1⟩, hN1, hd1⟩ := hgood
    obtain ⟨xs, vs, h5, h6, h7⟩ := resP_run hr1 he1 fn.results.toList rs [] [] hres trivial hret
    obtain ⟨p, ⟨h8, h9, h10, h11, h12⟩, h13⟩ := h5
    refine ⟨tupU vs, results_run h4 h7, _, _, p, dropLoc ρ' p, rfl, ⟨h13, h10⟩, hf1.trans drop_fr, dropRep hr1 h8 h12, ?_, fun k hk hkm => ?_⟩
    · exact drop_rep _ _ h11 (tup_rep (by simpa using h6))
    · have hkf := hmv k hk hkm
      rw [live_loc (keepP_get h9 k hkf)]
      exact hfx1 k hkf
  refine aw_sound (P := P) (X := X) (N := fn.ntmps) hP c l0 l hm none cx ρ w hcx (.inl rfl) (by unfold ROk; rw [hk]; trivial) (fun k => by rw [hy]; exact YOk_none) _ (retP cx.fx h0.length rs R) (fun _ _ => False) (retP cx.fx h0.length rs R) ?_ ?_ (fun _ _ _ _ hx _ => hx.elim) ?_ _ _ _ h hg
  · rintro ⟨a, w', val, _, _, _, hq, _⟩
    cases hq
  · intro s a w' hret hgood
    exact leaves_of (hend s hret) a.defers a w' rfl hgood
  · intro s a w' hret hgood
    exact leaves_of (hend s hret) a.defers a w' rfl hgood
theorem Iter_of (hP : P.follows .mixedOrders = true) {cx : Cx} (hcx : cx.ok P) {f : FuncId} {fn : Func} {c : Code} {l0 l : LCode} (hf : P.funcs[f]? = some fn) (hb : fn.body = some c)
    (hm : rlC P fn.ntmps c l0 = some l) (hres : rlRes P fn.results.toList = some []) {args : List V} {h0 : List Blk} {k : Nat} {Y : Yt} {K : List Blk → Prop}
    (hlen : args.length ≤ fn.ntmps) (h : aw cx l (fun s => K s.h) (fun _ _ => False) (fun s => K s.h) ⟨args0 0 args, h0, 0⟩) (hy : cx.y = fun k' xs s Z => k' = k ∧ Y xs s Z) (hk : cx.rk = none := by rfl) : Iter P f args cx.fx k Y h0 K := by
  intro ρ X w vals hr ha hfx hY
  have hvl := RepL_len ha
  have hnil : fn.results.toList = [] := by
    cases hl : fn.results.toList with
    | nil => rfl
    | cons r rs =>
      rw [hl] at hres
      simp only [rlRes] at hres
      split at hres <;> simp at hres
  refine (callsIn_wide (n := 0)).1 (callsIn_of_wp_marks hf hb trivial ?_)
  have hg : Good ρ X w cx.fx fn.ntmps ⟨args0 0 args, h0, 0⟩ { tmps := vals.toArray ++ Array.replicate (fn.ntmps - vals.toArray.size) undef, defers := [] } w :=
    ⟨ρ, ⟨⟨Fr.refl _ _, fun _ _ => rfl⟩, hfx⟩, ⟨hr, args0_rep ha _⟩, by simp; omega, Marks.nil⟩
  have hend : ∀ s, K s.h → ∀ a w', Good ρ X w cx.fx fn.ntmps s a w' → ∃ v, (results fn a.tmps).run P w' = .ok v w' ∧ ∃ val h' ρ', Ending.returned v = .returned val ∧ K h' ∧ (Fr ρ w ρ' w' ∧ Rep ρ' X w' h') ∧ (∀ j ∈ cx.fx, ρ' j = ρ j) ∧ keepP cx.fx h' := by
    intro s hK a w' hgood
    obtain ⟨ρ', ⟨⟨hf1, hfx1⟩, hk1⟩, ⟨hr1, he1⟩, hN1, hd1⟩ := hgood
    exact ⟨tupU [], results_run (us := []) (by rw [hnil]; simp) (by rw [hnil]; trivial), _, s.h, ρ', rfl, hK, ⟨hf1, hr1⟩, hfx1, hk1⟩
  refine aw_sound (P := P) (X := X) (N := fn.ntmps) hP c l0 l hm none cx ρ w hcx (.inl rfl) (by unfold ROk; rw [hk]; trivial) (fun k' => ?_) _ (fun s => K s.h) (fun _ _ => False) (fun s => K s.h) ?_ ?_ (fun _ _ _ _ hx _ => hx.elim) ?_ _ _ _ h hg
  · rw [hy]
    intro ρ1 w1 s tmps xs vs Z h1 h2 h3 h5 h6 h7
    obtain ⟨rfl, h7⟩ := h7
    exact hY ρ1 w1 s tmps xs vs Z h1 h2 h3 h5 h6 h7
  · rintro ⟨a, w', val, _, _, hq, _⟩
    cases hq
  · intro s a w' hret hgood
    exact leaves_of (hend s hret) a.defers a w' rfl hgood
  · intro s a w' hret hgood
    exact leaves_of (hend s hret) a.defers a w' rfl hgood
def rlF (P : Program) (f : FuncId) (l0 : LCode) : Option (LCode × List LRes × Nat) :=
  match P.funcs[f]? with
  | some fn => match fn.body, rlRes P fn.results.toList, decide (fn.results.toList.length ≤ 4) && !(fn.name == "runtime.NumGoroutine") with
    | some c, some rs, true => (rlC P fn.ntmps c l0).map fun l => (l, rs, fn.ntmps)
    | _, _, _ => none
  | none => none
theorem rlF_callable {P : Program} {f : FuncId} {l0 l : LCode} {rs : List LRes} {nt : Nat} (h : rlF P f l0 = some (l, rs, nt)) : Callable P f := by
  unfold rlF at h
  split at h
  · rename_i fn hf
    split at h
    · rename_i c rs' hb hr ht
      simp only [Bool.and_eq_true, Bool.not_eq_true', decide_eq_true_eq] at ht
      exact ⟨fn, hf, ht.2, by simp [hb]⟩
    · cases h
  · cases h
theorem Fn_rl {P : Program} (hP : P.follows .mixedOrders = true) {cx : Cx} (hcx : cx.ok P) {f : FuncId} {l0 l : LCode} {rs : List LRes} {nt : Nat} (hl : rlF P f l0 = some (l, rs, nt))
    {args : List V} {h0 : List Blk} {mv : List Nat} {R : V → List Blk → Prop} (hlen : args.length ≤ nt) (hfx : keepP cx.fx h0) (hmv : ∀ k, k < h0.length → k ∉ mv → k ∈ cx.fx)
    (h : aw cx l (retP cx.fx h0.length rs R) (fun _ _ => False) (retP cx.fx h0.length rs R) ⟨args0 0 args, h0, 0⟩) (hy : cx.y = fun _ _ _ _ => False := by rfl) (hk : cx.rk = none := by rfl) : Fn P f args h0 mv R := by
  unfold rlF at hl
  split at hl
  · rename_i fn hf
    split at hl
    · rename_i c rs' hb hr ht
      simp only [Bool.and_eq_true, Bool.not_eq_true', decide_eq_true_eq] at ht
      cases hm : rlC P fn.ntmps c l0 with
      | none => simp [hm] at hl
      | some l1 =>
        simp only [hm, Option.map_some, Option.some.injEq, Prod.mk.injEq] at hl
        obtain ⟨rfl, rfl, rfl⟩ := hl
        exact Fn_of hP hcx hf hb hm hr ht.1 hlen hfx hmv h hy hk
    · cases hl
  · cases hl
theorem Iter_rl {P : Program} (hP : P.follows .mixedOrders = true) {cx : Cx} (hcx : cx.ok P) {f : FuncId} {l0 l : LCode} {nt : Nat} (hl : rlF P f l0 = some (l, [], nt))
    {args : List V} {h0 : List Blk} {k : Nat} {Y : Yt} {K : List Blk → Prop} (hlen : args.length ≤ nt)
    (h : aw cx l (fun s => K s.h) (fun _ _ => False) (fun s => K s.h) ⟨args0 0 args, h0, 0⟩) (hy : cx.y = fun k' xs s Z => k' = k ∧ Y xs s Z) (hk : cx.rk = none := by rfl) : Iter P f args cx.fx k Y h0 K := by
  unfold rlF at hl
  split at hl
  · rename_i fn hf
    split at hl
    · rename_i c rs' hb hr ht
      cases hm : rlC P fn.ntmps c l0 with
      | none => simp [hm] at hl
      | some l1 =>
        simp only [hm, Option.map_some, Option.some.injEq, Prod.mk.injEq] at hl
        obtain ⟨rfl, rfl, rfl⟩ := hl
        exact Iter_of hP hcx hf hb hm hr hlen h hy hk
    · cases hl
  · cases hl
end
end Go.Fx
namespace Go.Fx
open Go.RowKit Go.ChangeShapes Go.WideShapes
def WfV : T → V → Prop
  | .st fs, x => ∃ cs, WfTs fs cs ∧ x = .agg cs
  | .int k, x => WfT (.int k) [x]
  | .bool, x => WfT .bool [x]
  | .str, x => WfT .str [x]
  | .sl sz e, x => WfT (.sl sz e) [x]
def WfA : List T → List V → Prop
  | [], xs => xs = []
  | t :: ts, xs => ∃ x r, xs = x :: r ∧ WfV t x ∧ WfA ts r
def tysA (P : Program) : List TypeId → Option (List T)
  | [] => some []
  | t :: ts => match tyOf P 20 t, tysA P ts with
    | some x, some r => some (x :: r)
    | _, _ => none
def rho0 : Nat → Loc := fun _ => ⟨false, 0, 0, 0, 0, default⟩
theorem rho0_own (b : Nat) : ¬ Own rho0 b := fun ⟨_, h, _⟩ => by simp [rho0] at h
theorem rho0_rep (w : World) : Rep rho0 (fun _ => False) w [] :=
  ⟨fun j k _ h => by simp [rho0] at h, fun _ _ => rfl, fun k b h => by simp at h, fun _ h => (rho0_own _ h).elim, fun k h => by simp [rho0] at h, fun _ h => h.elim⟩
section
variable {P : Program} {w : World} {ρ : Nat → Loc} {X : Nat → Prop}
theorem RepD_V : ∀ {x : V} {u : Value}, RepD (Sta ρ X w) w x u → RepV ρ X w x u
  | .v _, _, h => h.1
  | .ro _ _, _, h => h
  | .any, _, h | .bro _ _, _, h | .full _ _, _, h | .sl _ _ _, _, h | .ptr _ _ _, _, h | .rp _ _ _ _, _, h | .agg _, _, h | .tup _, _, h | .clo _ _, _, h | .mp _, _, h | .itr _, _, h => h.elim
theorem RepDs_L : ∀ {xs : List V} {us : List Value}, RepDs (Sta ρ X w) w xs us → RepL ρ X w xs us
  | [], [], _ => trivial
  | _ :: _, _ :: _, h => ⟨RepD_V h.1, RepDs_L h.2⟩
  | [], _ :: _, h => h.elim
  | _ :: _, [], h => h.elim
theorem cells_one {v u : Value} (h : v.cells.toList = [u]) (hn : ∀ cs, v ≠ .agg cs) : u = v := by
  cases v <;> simp_all [Value.cells]
variable {H : Type} {enc : TypeId × Value → H} {base : Nat} {spare : Nat → Bool} {held : Bool}
theorem arg_rep {n : Nat} {t : TypeId} {ty : T} {v : Value} {r : Reach} {b : Nat} {d : DataW H} {p : List MemPlace} (hS : ∀ b, b < w.heap.size → Sta ρ X w b) (ht : tyOf P n t = some ty)
    (hok : Value.okWide P w r b t v) (h : DataW.Trod enc P w base spare held t v d p) : ∃ x, WfV ty x ∧ RepV ρ X w x v := by
  obtain ⟨fuel, h⟩ := h
  obtain ⟨xs, h1, h2⟩ := trod_rep hS fuel n t ty _ _ ht h
  cases n with
  | zero => simp [tyOf] at ht
  | succ n =>
    unfold Value.okWide at hok
    simp only [tyOf] at ht
    split at ht
    · rename_i hu
      simp only [Option.some.injEq] at ht
      subst ht
      obtain ⟨c, rfl⟩ := h1
      have hl := RepDs_len h2
      obtain ⟨u, hu'⟩ : ∃ u, v.cells.toList = [u] := List.length_eq_one_iff.1 hl.symm
      have hv := cells_one hu' (fun cs hc => by subst hc; simp [hu, Cell.okWide, Cell.ok] at hok)
      subst hv
      rw [hu'] at h2
      exact ⟨_, ⟨c, rfl⟩, RepD_V h2.1⟩
    · rename_i k hu
      simp only [Option.some.injEq] at ht
      subst ht
      obtain ⟨c, rfl, hc⟩ := h1
      have hl := RepDs_len h2
      obtain ⟨u, hu'⟩ : ∃ u, v.cells.toList = [u] := List.length_eq_one_iff.1 hl.symm
      have hv := cells_one hu' (fun cs hc => by subst hc; simp [hu, Cell.okWide, Cell.ok] at hok)
      subst hv
      rw [hu'] at h2
      exact ⟨_, ⟨c, rfl, hc⟩, RepD_V h2.1⟩
    · rename_i hu
      simp only [Option.some.injEq] at ht
      subst ht
      obtain ⟨c, rfl, hc⟩ := h1
      have hl := RepDs_len h2
      obtain ⟨u, hu'⟩ : ∃ u, v.cells.toList = [u] := List.length_eq_one_iff.1 hl.symm
      have hv := cells_one hu' (fun cs hc => by subst hc; simp [hu, Cell.okWide, Cell.ok] at hok)
      subst hv
      rw [hu'] at h2
      exact ⟨_, ⟨c, rfl, hc⟩, RepD_V h2.1⟩
    · rename_i e hu
      split at ht
      · rename_i te _
        split at ht
        · simp only [Option.some.injEq] at ht
          subst ht
          obtain ⟨c, rfl, hc⟩ := h1
          have hl := RepDs_len h2
          obtain ⟨u, hu'⟩ : ∃ u, v.cells.toList = [u] := List.length_eq_one_iff.1 hl.symm
          have hv := cells_one hu' (fun cs hc => by subst hc; simp [hu, Cell.okWide, Cell.ok] at hok)
          subst hv
          rw [hu'] at h2
          exact ⟨_, ⟨c, rfl, hc⟩, RepD_V h2.1⟩
        · cases ht
      · cases ht
    · rename_i fs hu
      split at ht
      · split at ht
        · simp only [Option.some.injEq] at ht
          subst ht
          simp only [hu] at hok
          obtain ⟨cs, rfl, _⟩ := hok
          exact ⟨.agg xs, ⟨xs, h1, rfl⟩, cs, rfl, RepDs_L (by simpa [Value.cells] using h2)⟩
        · cases ht
      · cases ht
    · rename_i m e hu
      split at ht
      · split at ht
        · simp only [Option.some.injEq] at ht
          subst ht
          simp only [hu] at hok
          obtain ⟨cs, rfl, _⟩ := hok
          exact ⟨.agg xs, ⟨xs, h1, rfl⟩, cs, rfl, RepDs_L (by simpa [Value.cells] using h2)⟩
        · cases ht
      · cases ht
    · cases ht
theorem args_rep (hS : ∀ b, b < w.heap.size → Sta ρ X w b) : ∀ (ts : List TypeId) (tys : List T) (vs : List Value) (ds : List (DataW H)) (p : List MemPlace), tysA P ts = some tys →
    (∀ (j : Nat) t v, ts[j]? = some t → vs[j]? = some v → Value.okWide P w .any base t v) → DataW.TrodAll enc P w 0 spare held ts vs ds p → ∃ xs, WfA tys xs ∧ RepL ρ X w xs vs ∧ ds.length = tys.length
  | [], tys, vs, ds, p, ht, hok, h => by
    simp only [tysA, Option.some.injEq] at ht
    subst ht
    obtain ⟨rfl, rfl, rfl⟩ := trodAll_nil h
    exact ⟨[], rfl, trivial, rfl⟩
  | t :: ts, tys, vs, ds, p, ht, hok, h => by
    simp only [tysA] at ht
    split at ht
    · rename_i ty tr h1 h2
      simp only [Option.some.injEq] at ht
      subst ht
      obtain ⟨v, vs1, d, ds1, a, b, rfl, rfl, rfl, h3, h4⟩ := trodAll_cons h
      obtain ⟨x, h5, h6⟩ := arg_rep hS h1 (hok 0 t v rfl rfl) h3
      obtain ⟨xs, h7, h8, h9⟩ := args_rep hS ts tr vs1 ds1 b h2 (fun j t v h1 h2 => hok (j + 1) t v (by simpa using h1) (by simpa using h2)) h4
      exact ⟨x :: xs, ⟨x, xs, rfl, h5, h7⟩, ⟨h6, h8⟩, by simp [h9]⟩
    · cases ht
theorem trodAll_stays (hl : laidOutB P = true) {W W' : World} (hb : Below W.heap.size W W') : ∀ (ts : List TypeId) (vs : List Value) (ds : List (DataW H)) (p : List MemPlace), (∀ t ∈ ts, P.readableRec t = true ∧ t < P.types.size) →
    DataW.TrodAll enc P W 0 (fun _ => true) true ts vs ds p → (∀ x ∈ p, x.block < W.heap.size) → DataW.TrodAll enc P W' 0 (fun b => decide (b < W.heap.size)) true ts vs ds p
  | [], vs, ds, p, _, h, _ => by
    obtain ⟨rfl, rfl, rfl⟩ := trodAll_nil h
    rfl
  | t :: ts, vs, ds, p, hr, h, hlt => by
    obtain ⟨v, vs1, d, ds1, a, b, rfl, rfl, rfl, h3, h4⟩ := trodAll_cons h
    exact trodAll_cons_mk (Below.trod hl (hr t List.mem_cons_self).1 (hr t List.mem_cons_self).2 h3 hb (fun x hx => hlt x (List.mem_append_left _ hx)))
      (trodAll_stays hl hb ts vs1 ds1 b (fun t ht => hr t (List.mem_cons_of_mem _ ht)) h4 (fun x hx => hlt x (List.mem_append_right _ hx)))
theorem trodAll_true (hl : laidOutB P = true) {W W' : World} (hb : Below W.heap.size W W') : ∀ (ts : List TypeId) (vs : List Value) (ds : List (DataW H)) (p : List MemPlace), (∀ t ∈ ts, P.readableRec t = true ∧ t < P.types.size) →
    DataW.TrodAll enc P W 0 (fun _ => true) true ts vs ds p → (∀ x ∈ p, x.block < W.heap.size) → DataW.TrodAll enc P W' 0 (fun _ => true) true ts vs ds p
  | [], vs, ds, p, _, h, _ => by
    obtain ⟨rfl, rfl, rfl⟩ := trodAll_nil h
    rfl
  | t :: ts, vs, ds, p, hr, h, hlt => by
    obtain ⟨v, vs1, d, ds1, a, b, rfl, rfl, rfl, h3, h4⟩ := trodAll_cons h
    exact trodAll_cons_mk (WideElems.Trod_stays hl (hr t List.mem_cons_self).1 (hr t List.mem_cons_self).2 h3 (fun x hx => hb.same (hlt x (List.mem_append_left _ hx))) (fun _ _ => rfl))
      (trodAll_true hl hb ts vs1 ds1 b (fun t ht => hr t (List.mem_cons_of_mem _ ht)) h4 (fun x hx => hlt x (List.mem_append_right _ hx)))
theorem law_contract {f : FuncId} {fn : Func} {s : ChangeSpec} {tys : List T} {tb : TypeId} {apart fresh handsOn again : Bool}
    (hl : laidOutB P = true) (ht : tysA P fn.params.toList = some tys) (hread : (fn.params.toList.all fun t => P.readableRec t && decide (t < P.types.size)) = true)
    (hres : fn.resultTypes = #[tb]) (hb : P.underlying tb = some .bool) (hvars : s.vars = [])
    (hspec : ∀ (H : Type) (ds : List (DataW H)), ds.length = tys.length → s.fn H ds = { results := [.lit (.bool true)], args := ds })
    (hfn : ∀ zas, WfA tys zas → Fn P f zas [] [] (fun r _ => r = .b true))
    (W : World) (base : Nat) (args : Array Value) (ds gs : List (DataW H)) (before : List MemPlace)
    (hval : ∀ (j : Nat) t v, fn.params[j]? = some t → args[j]? = some v → Value.okWide P W .any base t v)
    (hW : DataW.Whole enc P fn.params.toList s.vars apart W args.toList ds gs before) :
    Calls P f args W fun e W' => ∃ v, e = .returned v ∧ s.post enc P fn apart fresh handsOn again W args v W' := by
  have hW' := hW
  obtain ⟨p, q, hA, hV, rfl, hfz, hnd⟩ := hW
  have hpl := hW'.lt
  have hV0 : gs = [] ∧ q = [] := by
    rw [hvars] at hV
    cases gs with
    | nil => exact ⟨rfl, hV⟩
    | cons _ _ => exact hV.elim
  obtain ⟨rfl, rfl⟩ := hV0
  obtain ⟨xs, h1, h2, h3⟩ := args_rep (ρ := rho0) (X := fun _ => False) (fun b hb => ⟨hb, rho0_own b, fun h => h⟩) fn.params.toList tys args.toList ds p ht (fun j t v h1 h2 => hval j t v (by simpa using h1) (by simpa using h2)) hA
  have hc := hfn xs h1 rho0 (fun _ => False) W args.toList (rho0_rep W) h2
  have harr : args.toList.toArray = args := by simp
  rw [harr] at hc
  refine hc.mono fun e W' ⟨val, r, h', ρ', he, ⟨hr, _⟩, hF, hR, hv, _⟩ => ?_
  subst hr
  have hv : val = .bool true := hv
  subst hv
  refine ⟨_, he, ?_⟩
  have hbel : Below W.heap.size W W' := ⟨hF.os, hF.tape, hF.output, hF.size, fun k hk => (hF.keep k hk (rho0_own k)).1⟩
  have hsz : fn.resultTypes.size = 1 := by rw [hres]; rfl
  have hrl : (Value.bool true).resultList fn.resultTypes.size = [.bool true] := by rw [hsz]; rfl
  have hsp : s.fn H (ds ++ []) = { results := [.lit (.bool true)], args := ds } := by rw [List.append_nil]; exact hspec H ds h3
  have hrd : ∀ t ∈ fn.params.toList, P.readableRec t = true ∧ t < P.types.size := by
    intro t ht
    have := List.all_eq_true.1 hread t ht
    simpa using this
  have hplt : ∀ x ∈ p, x.block < W.heap.size := fun x hx => hpl x (by simpa using hx)
  have hok : ∀ (j : Nat) (t : TypeId) (r : Value), fn.resultTypes[j]? = some t → ((Value.bool true).resultList fn.resultTypes.size)[j]? = some r → Value.okWide P W' .any 0 t r := by
    intro j t r h4 h5
    rw [hrl] at h5
    rw [hres] at h4
    cases j with
    | zero =>
      simp only [List.getElem?_cons_zero, Option.some.injEq] at h5
      simp only [List.getElem?_toArray, List.getElem?_cons_zero, Option.some.injEq] at h4
      subst h4 h5
      simp [Value.okWide, hb, Cell.okWide, Cell.ok]
    | succ j => simp at h5
  have hrt : ∀ (b : Nat) (sp : Nat → Bool) (hd : Bool), DataW.TrodAll enc P W' b sp hd fn.resultTypes.toList ((Value.bool true).resultList fn.resultTypes.size) [.lit (.bool true)] [] := by
    intro b sp hd
    rw [hrl, hres]
    exact ⟨[], [], ⟨1, by simp [DataW.trod, Value.cells, hb]⟩, rfl, rfl⟩
  refine ⟨ds, [], p ++ [], [], p, [], hW', ?_, ?_, ?_, hbel.frame _, fun _ => ⟨hok, ds.cons (.lit (.bool true)), [], p ++ [], ?_, fun x hx _ => hx⟩⟩
  · rw [hsp]; exact hrt _ _ _
  · rw [hsp]; exact trodAll_stays hl hbel _ _ _ _ hrd hA hplt
  · rw [hsp, hvars]; rfl
  · refine ⟨p, [], ?_, by rw [hvars]; rfl, rfl, ?_, hnd⟩
    · have h6 := trodAll_true hl hbel _ _ _ _ hrd hA hplt
      have h7 := trodAll_append h6 (hrt 0 (fun _ => true) true)
      simpa using h7
    · intro b off hp
      have h8 := hfz b off hp
      rw [World.frozen?_of_block (w := W) (hbel.block b (hpl _ hp))]
      exact h8
end
end Go.Fx
namespace Go.Fx
def forceNat {α : Type} (n : Nat) (K : Nat → α) : α :=
  match n with
  | 0 => K 0
  | m + 1 => K (m + 1)
theorem forceNat_eq {α : Type} (n : Nat) (K : Nat → α) : forceNat n K = K n := by cases n <;> rfl
def forceV {α : Type} (x : V) (K : V → α) : α :=
  match x with
  | .v (.int k n) => match n with
    | .ofNat m => forceNat m fun m => K (.v (.int k (.ofNat m)))
    | .negSucc m => forceNat m fun m => K (.v (.int k (.negSucc m)))
  | .v (.bool t) => match t with
    | true => K (.v (.bool true))
    | false => K (.v (.bool false))
  | .sl k i n => forceNat k fun k => forceNat i fun i => forceNat n fun n => K (.sl k i n)
  | .ptr k i f => forceNat k fun k => forceNat i fun i => forceNat f fun f => K (.ptr k i f)
  | .mp k => forceNat k fun k => K (.mp k)
  | x => K x
theorem forceV_eq {α : Type} (x : V) (K : V → α) : forceV x K = K x := by
  unfold forceV
  split <;> (try split) <;> simp only [forceNat_eq]
inductive Tr where
  | lf
  | nd (v : V) (l r : Tr)
  deriving Inhabited
def Tr.get : Tr → Nat → V
  | .lf, _ => .any
  | .nd v l r, i => match i with
    | 0 => v
    | j + 1 => if j % 2 = 0 then l.get (j / 2) else r.get (j / 2)
def Tr.put : Nat → Tr → Nat → V → Tr
  | 0, t, _, _ => t
  | n + 1, .lf, i, x => match i with
    | 0 => .nd x .lf .lf
    | j + 1 => if j % 2 = 0 then .nd .any (Tr.put n .lf (j / 2) x) .lf else .nd .any .lf (Tr.put n .lf (j / 2) x)
  | n + 1, .nd v l r, i, x => match i with
    | 0 => .nd x l r
    | j + 1 => if j % 2 = 0 then .nd v (Tr.put n l (j / 2) x) r else .nd v l (Tr.put n r (j / 2) x)
def Tr.kill (M : List Nat) : Tr → Tr
  | .lf => .lf
  | .nd v l r => .nd (Fx.kill M v) (l.kill M) (r.kill M)
theorem Tr.get_put : ∀ (n : Nat) (t : Tr) (i : Nat) (x : V) (j : Nat), i < n → (Tr.put n t i x).get j = if j = i then x else t.get j
  | 0, _, _, _, _, h => by omega
  | n + 1, .lf, 0, x, j, _ => by cases j <;> simp [Tr.put, Tr.get]
  | n + 1, .nd v l r, 0, x, j, _ => by cases j <;> simp [Tr.put, Tr.get]
  | n + 1, .lf, i + 1, x, j, h => by
    simp only [Tr.put]
    split
    · rename_i hi
      cases j with
      | zero => simp [Tr.get]
      | succ j =>
        simp only [Tr.get]
        by_cases hj : j % 2 = 0
        · rw [if_pos hj, Tr.get_put n _ _ _ _ (by omega)]
          by_cases e : j = i
          · subst e; simp
          · rw [if_neg (by omega), if_neg (by omega)]; simp [Tr.get]
        · rw [if_neg hj, if_neg (by omega)]
    · rename_i hi
      cases j with
      | zero => simp [Tr.get]
      | succ j =>
        simp only [Tr.get]
        by_cases hj : j % 2 = 0
        · rw [if_pos hj, if_neg (by omega)]
        · rw [if_neg hj, Tr.get_put n _ _ _ _ (by omega)]
          by_cases e : j = i
          · subst e; simp
          · rw [if_neg (by omega), if_neg (by omega)]; simp [Tr.get]
  | n + 1, .nd v l r, i + 1, x, j, h => by
    simp only [Tr.put]
    split
    · rename_i hi
      cases j with
      | zero => simp [Tr.get]
      | succ j =>
        simp only [Tr.get]
        by_cases hj : j % 2 = 0
        · rw [if_pos hj, Tr.get_put n _ _ _ _ (by omega), if_pos hj]
          by_cases e : j = i
          · subst e; simp
          · rw [if_neg (by omega), if_neg (by omega)]
        · rw [if_neg hj, if_neg (by omega), if_neg hj]
    · rename_i hi
      cases j with
      | zero => simp [Tr.get]
      | succ j =>
        simp only [Tr.get]
        by_cases hj : j % 2 = 0
        · rw [if_pos hj, if_neg (by omega), if_pos hj]
        · rw [if_neg hj, Tr.get_put n _ _ _ _ (by omega), if_neg hj]
          by_cases e : j = i
          · subst e; simp
          · rw [if_neg (by omega), if_neg (by omega)]
theorem Tr.get_kill (M : List Nat) : ∀ (t : Tr) (i : Nat), (t.kill M).get i = Fx.kill M (t.get i)
  | .lf, _ => by simp [Tr.kill, Tr.get, Fx.kill]
  | .nd v l r, i => by
    cases i with
    | zero => rfl
    | succ j =>
      simp only [Tr.kill, Tr.get]
      split
      · exact Tr.get_kill M l _
      · exact Tr.get_kill M r _
def evT (E : Tr) : Operand → V
  | .tmp t => E.get t
  | .const c => ofConst c
  | .func f => .clo f []
  | .global _ => .any
mutual
def namesV : V → List Nat
  | .sl k _ _ => [k]
  | .ptr k _ _ => [k]
  | .mp k => [k]
  | .itr k => [k]
  | .agg cs => namesL cs
  | .tup cs => namesL cs
  | .clo _ cs => namesL cs
  | _ => []
def namesL : List V → List Nat
  | [] => []
  | x :: r => namesV x ++ namesL r
end
def namesB : Blk → List Nat
  | .var cs => namesL cs
  | .arv _ els => namesL els.flatten
  | .map es _ => namesL (es.map (·.2.1))
  | .it m _ _ _ => namesV m
  | .rcd _ e => namesL (e.map (·.2))
  | _ => []
def hasN (l : List Nat) (n : Nat) : Bool := l.any fun m => Nat.beq m n
def addN : List Nat → List Nat → List Nat
  | [], acc => acc
  | k :: r, acc => if hasN acc k then addN r acc else addN r (acc ++ [k])
def reach (h : List Blk) : Nat → List Nat → List Nat → List Nat
  | 0, _, acc => acc
  | _ + 1, [], acc => acc
  | n + 1, k :: todo, acc => if hasN acc k then reach h n todo acc else forceNat k fun k => reach h n (namesB (blk h k) ++ todo) (acc ++ [k])
def liveB (h : List Blk) (k : Nat) : Bool :=
  match h[k]? with
  | some .dead => false
  | some _ => true
  | none => false
mutual
def wfVB (h : List Blk) : V → Bool
  | .sl k _ _ => liveB h k
  | .ptr k _ _ => liveB h k
  | .mp k => liveB h k
  | .itr k => liveB h k
  | .agg cs => wfLB h cs
  | .tup cs => wfLB h cs
  | .clo _ cs => wfLB h cs
  | _ => true
def wfLB (h : List Blk) : List V → Bool
  | [] => true
  | x :: r => wfVB h x && wfLB h r
end
def wfEB (h : List Blk) : List (Nat × V) → Bool
  | [] => true
  | (_, x) :: r => wfVB h x && wfEB h r
def wfBB (h : List Blk) : List Blk → Bool
  | [] => true
  | .var cs :: r => wfLB h cs && wfBB h r
  | .dead :: r => wfBB h r
  | .arr _ _ :: r => wfBB h r
  | .arv _ els :: r => wfLB h els.flatten && wfBB h r
  | .map es _ :: r => wfLB h (es.map (·.2.1)) && wfBB h r
  | .it m _ _ _ :: r => wfVB h m && wfBB h r
  | .rcd _ e :: r => wfEB h e && wfBB h r
def keepB (h : List Blk) (fx : List Nat) : Bool := fx.all (liveB h)
def loadCsD (n : Option Nat) (f : Nat) (cs : List V) : Option V :=
  match n with
  | none => cs[f]?
  | some m => if f + m ≤ cs.length then some (.agg ((cs.drop f).take m)) else none
def loadBD (n : Option Nat) (i f : Nat) (b : Blk) : Option V :=
  match b with
  | .var cs => loadCsD n f cs
  | .arr _ els => match els[i]? with
    | some e => loadCsD n f e
    | none => none
  | .arv _ els => match els[i]? with
    | some e => loadCsD n f e
    | none => none
  | _ => none
def loadD (h : List Blk) (n : Option Nat) (p : V) : Option V :=
  match p with
  | .ptr k i f => loadBD n i f (blk h k)
  | .rp _ els i f => match els[i]? with
    | some e => loadCsD n f e
    | none => none
  | _ => none
def storeBD (n : Nat) (i f : Nat) (cs : List V) (b : Blk) : Option Blk :=
  match b with
  | .var old => if f + n ≤ old.length then some (.var (splice old f cs)) else none
  | .arr sz els => match els[i]? with
    | some e => if f + n ≤ sz ∧ cs.all isD = true then some (.arr sz (els.set i (splice e f cs))) else none
    | none => none
  | .arv sz els => match els[i]? with
    | some e => if f + n ≤ sz then some (.arv sz (els.set i (splice e f cs))) else none
    | none => none
  | _ => none
def storeD (bn : List Nat) (h : List Blk) (n : Nat) (p : V) (cs : List V) : Option (List Blk) :=
  match p with
  | .ptr k i f => if cs.length = n ∧ hasN bn k = false ∧ cs.all isC = true then (storeBD n i f cs (blk h k)).map fun b => h.set k b else none
  | _ => none
def arrSzB (z : Nat) (b : Blk) : Bool :=
  match b with
  | .arr s _ => decide (s = z)
  | .arv s _ => decide (s = z)
  | _ => false
def idxD (h : List Blk) (z : Nat) (n : Int) (x : V) : Option V :=
  match x with
  | .sl k i0 m => if arrSzB z (blk h k) = true ∧ 0 ≤ n ∧ n < m then some (.ptr k (i0 + n.toNat) 0) else none
  | .ro sz els => if sz = z ∧ 0 ≤ n ∧ n < els.length then some (.rp sz els n.toNat 0) else none
  | .bro sz els => if sz = z ∧ 0 ≤ n ∧ n < els.length then some (.rp sz els n.toNat 0) else none
  | .full sz els => if sz = z ∧ 0 ≤ n ∧ n < els.length then some (.rp sz els n.toNat 0) else none
  | _ => none
def lenD (x : V) : Option V :=
  match x with
  | .sl _ _ n => some (.i n)
  | .ro _ els => some (.i els.length)
  | .bro _ els => some (.i els.length)
  | .full _ els => some (.i els.length)
  | .v (.slice none 0 0) => some (.i 0)
  | _ => none
def viewD (h : List Blk) (x : V) : Option (Nat × List (List V)) :=
  match x with
  | .sl k i n => match blk h k with
    | .arr sz els => if i + n ≤ els.length then some (sz, (els.drop i).take n) else none
    | _ => none
  | .ro sz els => some (sz, els)
  | .bro sz els => some (sz, els)
  | .full sz els => some (sz, els)
  | .v (.slice none 0 0) => some (0, [])
  | _ => none
def optD (o : Option V) : Option (Option Int) :=
  match o with
  | none => some none
  | some (.v (.int _ n)) => some (some n)
  | some _ => none
instance (n : Nat) (l u m : Option Int) : Decidable (slcOk n l u m) := by unfold slcOk; infer_instance
def slcD (h : List Blk) (z : Nat) (x : V) (l u m : Option Int) : Option V :=
  match x with
  | .sl k i n => if arrSzB z (blk h k) = true ∧ slcOk n l u m then some (.sl k (i + (l.getD 0).toNat) ((u.getD n).toNat - (l.getD 0).toNat)) else none
  | .ro sz els => if sz = z ∧ slcOk els.length l u m then some (.ro sz ((els.drop (l.getD 0).toNat).take ((u.getD els.length).toNat - (l.getD 0).toNat))) else none
  | .bro sz els => if sz = z ∧ slcOk els.length l u m then some (.bro sz ((els.drop (l.getD 0).toNat).take ((u.getD els.length).toNat - (l.getD 0).toNat))) else none
  | .full sz els => if sz = z ∧ slcOk els.length l u m then some (.bro sz ((els.drop (l.getD 0).toNat).take ((u.getD els.length).toNat - (l.getD 0).toNat))) else none
  | .v (.slice none 0 0) => if slcOk 0 l u m then some (.v (.slice none 0 0)) else none
  | _ => none
def buildD (E : Tr) : List V → List (Nat × Nat × Operand) → Option V
  | acc, [] => some (.agg acc)
  | acc, (off, sz, x) :: r => match cells? (evT E x) with
    | some cs => if cs.length = sz ∧ off + sz ≤ acc.length then buildD E (splice acc off cs) r else none
    | none => none
def litsD (E : Tr) (sz : Nat) : List (List V) → List (Nat × Operand) → Option (List (List V))
  | acc, [] => some acc
  | acc, (i, x) :: r => match cells? (evT E x) with
    | some cs => if cs.length = sz ∧ i < acc.length ∧ cs.all isD = true then litsD E sz (acc.set i cs) r else none
    | none => none
def freshB (h : List Blk) (k : Nat) : Bool :=
  match h[k]? with
  | some .dead => true
  | _ => false
def exD (ex : Bool) (k : IntKind) (c : Int) : Option V :=
  if ex then (if lo k ≤ c ∧ c ≤ hi k then some (.v (.int k c)) else none) else some (.v (.int k (k.wrap c)))
def quoD (ex : Bool) (k : IntKind) (a b : Int) : Option V :=
  if b ≠ 0 then exD ex k (a.tdiv b) else none
def remD (k : IntKind) (a b : Int) : Option V := if b ≠ 0 then some (.v (.int k (a.tmod b))) else none
def andBD (k : IntKind) (a b : Int) : Option V := some (.v (.int k (k.wrap ((BitVec.ofInt k.bits a &&& BitVec.ofInt k.bits b).toNat : Int))))
def orBD (k : IntKind) (a b : Int) : Option V := some (.v (.int k (k.wrap ((BitVec.ofInt k.bits a ||| BitVec.ofInt k.bits b).toNat : Int))))
def xorBD (k : IntKind) (a b : Int) : Option V := some (.v (.int k (k.wrap ((BitVec.ofInt k.bits a ^^^ BitVec.ofInt k.bits b).toNat : Int))))
def andNotBD (k : IntKind) (a b : Int) : Option V := some (.v (.int k (k.wrap ((BitVec.ofInt k.bits a &&& ~~~(BitVec.ofInt k.bits b)).toNat : Int))))
def ltZ (a b : Int) : Bool :=
  match a, b with
  | .ofNat m, .ofNat n => Nat.blt m n
  | .negSucc _, .ofNat _ => true
  | .ofNat _, .negSucc _ => false
  | .negSucc m, .negSucc n => Nat.blt n m
def eqZ (a b : Int) : Bool :=
  match a, b with
  | .ofNat m, .ofNat n => Nat.beq m n
  | .negSucc m, .negSucc n => Nat.beq m n
  | _, _ => false
theorem ltZ_eq (a b : Int) : ltZ a b = decide (a < b) := by
  rw [Bool.eq_iff_iff, decide_eq_true_eq]
  cases a <;> cases b <;> simp only [ltZ, Nat.blt_eq, Int.ofNat_eq_natCast, Int.negSucc_eq, true_iff, Bool.false_eq_true, false_iff] <;> omega
theorem eqZ_eq (a b : Int) : eqZ a b = (a == b) := by
  rw [Bool.eq_iff_iff, beq_iff_eq]
  cases a <;> cases b <;> simp only [eqZ, Nat.beq_eq, Int.ofNat_eq_natCast, Int.negSucc_eq, Bool.false_eq_true, false_iff] <;> omega
def binD (op : BinOp) (ex : Bool) (k : IntKind) (a b : Int) : Option V :=
  match op with
  | .add => exD ex k (a + b)
  | .sub => exD ex k (a - b)
  | .mul => exD ex k (a * b)
  | .eql => some (.b (eqZ a b))
  | .neq => some (.b (!(eqZ a b)))
  | .lss => some (.b (ltZ a b))
  | .leq => some (.b (!(ltZ b a)))
  | .gtr => some (.b (ltZ b a))
  | .geq => some (.b (!(ltZ a b)))
  | .quo => quoD ex k a b
  | .rem => remD k a b
  | .and => andBD k a b
  | .or => orBD k a b
  | .xor => xorBD k a b
  | .andNot => andNotBD k a b
  | _ => none
def eqFsD (xs ys : List V) : List (Nat × TypeDesc) → Option Bool
  | [] => some true
  | f :: r => match xs[f.1]?, ys[f.1]? with
    | some (.v a), some (.v b) => if isKey f.2 a && isKey f.2 b then match eqFsD xs ys r with
        | some t => some (eqK a b && t)
        | none => none
      else none
    | _, _ => none
def shiftD (op : BinOp) (k : IntKind) (a b : Int) : Option V :=
  match op with
  | .shl => if 0 ≤ b then some (.v (.int k (k.wrap (a * 2 ^ (min b.toNat k.bits))))) else none
  | .shr => if 0 ≤ b then some (.v (.int k (a.fdiv (2 ^ (min b.toNat k.bits))))) else none
  | _ => none
structure Res where
  x : V
  E : Tr
  h : List Blk
def killIf (M : List Nat) (E : Tr) : Tr :=
  match M with
  | [] => E
  | _ => E.kill M
def one (E : Tr) (x : V) (h : List Blk) : Option (List Res) := some [⟨x, E, h⟩]
def oneO (E : Tr) (x : Option V) (h : List Blk) : Option (List Res) :=
  match x with
  | some x => some [⟨x, E, h⟩]
  | none => none
def frzT (k sz : Nat) (els : List (List V)) : Tr → Tr
  | .lf => .lf
  | .nd v l r => .nd (frzV k sz els v) (frzT k sz els l) (frzT k sz els r)
def frzD (fx : List Nat) : List Nat → Tr × List Blk → Option (Tr × List Blk)
  | [], p => some p
  | x :: r, p => match p.1.get x with
    | .sl k _ _ => match blk p.2 k with
      | .arr sz els => if hasN fx k then none else frzD fx r (frzT k sz els p.1, (p.2.map (frzB k sz els)).set k .dead)
      | _ => frzD fx r p
    | _ => frzD fx r p
def appNewD (E : Tr) (id sz bytes : Nat) (h : List Blk) (old new : List (List V)) : Option (List Res) :=
  if (old.length + new.length) * bytes ≤ 140737488355328 ∧ freshB h id = true then some [⟨.sl id 0 (old.length + new.length), E, h.set id (.arr sz (old ++ new))⟩] else none
def appBD (E : Tr) (fx bn : List Nat) (k i n sz bytes : Nat) (h : List Blk) (new : List (List V)) (b : Blk) : Option (List Res) :=
  match b with
  | .arr sz' els => if (sz' = sz ∧ i + n ≤ els.length ∧ (n + new.length) * bytes ≤ 140737488355328) ∧ hasN fx k = false ∧ hasN bn k = false then
      some [⟨.sl k 0 (n + new.length), E.kill [k], (h.map (killB [k])).set k (.arr sz ((els.drop i).take n ++ new))⟩] else none
  | _ => none
def appD (E : Tr) (fx bn : List Nat) (id sz bytes : Nat) (h : List Blk) (x : V) (new : List (List V)) : Option (List Res) :=
  match x with
  | .sl k i n => appBD E fx bn k i n sz bytes h new (blk h k)
  | .v (.slice none 0 0) => appNewD E id sz bytes h [] new
  | .full sz' els => if sz' = sz ∧ new.isEmpty = false then appNewD E id sz bytes h els new else none
  | _ => none
def copyD (E : Tr) (bn : List Nat) (sz : Nat) (h : List Blk) (x : V) (new : List (List V)) : Option (List Res) :=
  match x with
  | .sl k i n => match blk h k with
    | .arr sz' els => if sz' = sz ∧ i + n ≤ els.length ∧ hasN bn k = false then some [⟨.i (min new.length n : Nat), E, h.set k (.arr sz (els.take i ++ new.take n ++ els.drop (i + min new.length n)))⟩] else none
    | _ => none
  | _ => none
def eqnD (x : V) : Option (List Bool) :=
  match x with
  | .sl _ _ n => if n = 0 then some [true, false] else some [false]
  | .ro _ els => match els with
    | [] => some [true, false]
    | _ => some [false]
  | .bro _ els => match els with
    | [] => some [true, false]
    | _ => some [false]
  | .v (.slice none 0 0) => some [true]
  | _ => none
def mapD (h : List Blk) (x : V) : Option (Nat × List (Value × V × Nat) × Nat) :=
  match x with
  | .mp k => match blk h k with
    | .map es c => some (k, es, c)
    | _ => none
  | _ => none
def lookD (r : Option (Option (Nat × V))) (z : Value) (ok : Bool) : Option V :=
  match r with
  | some (some (_, v)) => some (if ok then .tup [v, .b true] else v)
  | some none => some (if ok then .tup [ofConst z, .b false] else ofConst z)
  | none => none
def msetD (r : Option (Option (Nat × V))) (key : Value) (x : V) (es : List (Value × V × Nat)) (c : Nat) : Option Blk :=
  match r with
  | some (some (i, _)) => some (.map (es.modify i fun e => (key, x, e.2.2)) c)
  | some none => some (.map (es ++ [(key, x, c)]) (c + 1))
  | none => none
def mdelD (r : Option (Option (Nat × V))) (es : List (Value × V × Nat)) (c : Nat) : Option Blk :=
  match r with
  | some (some (i, _)) => some (.map (es.eraseIdx i) c)
  | some none => some (.map es c)
  | none => none
def itD (h : List Blk) (x : V) : Option (Nat × V × Nat × List Nat × Nat) :=
  match x with
  | .ptr k 0 0 => match blk h k with
    | .it m since seen last => some (k, m, since, seen, last)
    | _ => none
  | _ => none
structure Ent where
  code : LCode
  rs : List LRes
  nt : Nat
  mv : Option Nat := none
abbrev YtD := List V → Tr × List Blk → Option (List (V × Tr × List Blk))
abbrev ItD := FuncId → List V → List Nat → Nat → YtD → List Blk → Option (List (List Blk))
abbrev CallD := FuncId → List V → List Blk → List Nat → Option (V × List Blk)
mutual
def lendOkB (h : List Blk) (g : Nat → Option Nat) : V → Bool
  | .sl k i n => match g k with
    | some _ => true
    | none => match blk h k with
      | .arr _ els => decide (i + n ≤ els.length)
      | _ => true
  | .agg cs => lendsOkB h g cs
  | .tup cs => lendsOkB h g cs
  | .clo _ cs => lendsOkB h g cs
  | _ => true
def lendsOkB (h : List Blk) (g : Nat → Option Nat) : List V → Bool
  | [] => true
  | x :: r => lendOkB h g x && lendsOkB h g r
end
def nodupB : List Nat → Bool
  | [] => true
  | k :: r => !(hasN r k) && nodupB r
def without (bn : List Nat) : List Nat → List Nat
  | [] => []
  | k :: r => if hasN bn k then without bn r else k :: without bn r
def afterD (E : Tr) (ι fx : List Nat) (h : List Blk) (r : V) (M : List Nat) (h2 : List Blk) : Option (List Res) :=
  if keepB h2 fx then some [⟨ren (back ι h.length) r, killIf M E, h2⟩] else none
def callI (E : Tr) (call : CallD) (fx bn : List Nat) (f : FuncId) (args : List V) (h : List Blk) (ι mv : List Nat) : Option (List Res) :=
  if (nodupB ι && ι.all fun k => decide (k < h.length) && !(hasN bn k)) && (lendsOkB h (pos ι) args && (mv.isEmpty || ι.all fun k => !(hasN fx k))) then
    match call f (lends h (pos ι) args) (ι.map fun k => renB (pos ι) (blk h k)) mv with
    | some (r, h') => afterD E ι fx h r (mv.filterMap (ι[·]?)) (setAll ι (h'.map (renB (back ι h.length))) (if mv.isEmpty then h else h.map (killB (mv.filterMap (ι[·]?)))))
    | none => none
  else none
def mvOf (o : Option Nat) (n : Nat) : List Nat :=
  match o with
  | some k => (List.range n).drop k
  | none => []
def callD (E : Tr) (call : CallD) (mvf : FuncId → Option Nat) (fx bn : List Nat) (f : FuncId) (args : List V) (h : List Blk) : Option (List Res) :=
  callI E call fx bn f args h (without bn (reach h 1000 (namesL args) [])) (mvOf (mvf f) (without bn (reach h 1000 (namesL args) [])).length)
def nextD (E : Tr) (k : Nat) (m : V) (es : List (Value × V × Nat)) (c since : Nat) (seen : List Nat) (last : Nat) (h : List Blk) : Option (List Res) :=
  if (es.all fun e => decide (e.2.2 < since)) = true ∧ since ≤ last then
    let left := es.filter fun e => !(seen.contains e.2.2)
    match left with
    | [] => some [⟨.tup [.b false], E, h⟩]
    | _ => some (left.map fun e => ⟨.tup [.b true, .v e.1, e.2.1], E, h.set k (.it m since (seen ++ [e.2.2]) c)⟩)
  else none
def o_pick (call : CallD) (mvf : FuncId → Option Nat) (fx bn : List Nat) (E : Tr) (h : List Blk) (b : Nat) (c : Operand) (a : Operand) (d : Operand) : Option (List Res) :=
  match evT E c with
    | .v (.bool t) => one E (if t then evT E a else evT E d) h
    | _ => none
def o_box (call : CallD) (mvf : FuncId → Option Nat) (fx bn : List Nat) (E : Tr) (h : List Blk) (b : Nat) (j : Nat) (x : Operand) : Option (List Res) :=
  match cells? (evT E x) with
    | some cs => if freshB h (b + j) then one E (.ptr (b + j) 0 0) (h.set (b + j) (.var cs)) else none
    | none => none
def o_alloc (call : CallD) (mvf : FuncId → Option Nat) (fx bn : List Nat) (E : Tr) (h : List Blk) (b : Nat) (j : Nat) (z : Value) : Option (List Res) :=
  match cells? (ofConst z) with
    | some cs => if freshB h (b + j) then one E (.ptr (b + j) 0 0) (h.set (b + j) (.var cs)) else none
    | none => none
def o_store (call : CallD) (mvf : FuncId → Option Nat) (fx bn : List Nat) (E : Tr) (h : List Blk) (b : Nat) (n : Nat) (a : Operand) (x : Operand) : Option (List Res) :=
  match cells? (evT E x) with
    | some cs => match storeD bn h n (evT E a) cs with
      | some h' => one E (.v (.tuple #[])) h'
      | none => none
    | none => none
def o_fld (call : CallD) (mvf : FuncId → Option Nat) (fx bn : List Nat) (E : Tr) (h : List Blk) (b : Nat) (off : Nat) (x : Operand) : Option (List Res) :=
  match evT E x with
    | .ptr k i f => one E (.ptr k i (f + off)) h
    | .rp sz els i f => one E (.rp sz els i (f + off)) h
    | _ => none
def o_idx (call : CallD) (mvf : FuncId → Option Nat) (fx bn : List Nat) (E : Tr) (h : List Blk) (b : Nat) (z : Nat) (x : Operand) (i : Operand) : Option (List Res) :=
  match evT E i with
    | .v (.int _ n) => oneO E (idxD h z n (evT E x)) h
    | _ => none
def o_bin (call : CallD) (mvf : FuncId → Option Nat) (fx bn : List Nat) (E : Tr) (h : List Blk) (b : Nat) (op : BinOp) (ex : Bool) (x : Operand) (y : Operand) : Option (List Res) :=
  match evT E x, evT E y with
    | .v (.int k a), .v (.int k' c) => if k' = k then oneO E (binD op ex k a c) h else none
    | _, _ => none
def o_shift (call : CallD) (mvf : FuncId → Option Nat) (fx bn : List Nat) (E : Tr) (h : List Blk) (b : Nat) (op : BinOp) (x : Operand) (y : Operand) : Option (List Res) :=
  match evT E x, evT E y with
    | .v (.int k a), .v (.int _ c) => oneO E (shiftD op k a c) h
    | _, _ => none
def o_lens (call : CallD) (mvf : FuncId → Option Nat) (fx bn : List Nat) (E : Tr) (h : List Blk) (b : Nat) (x : Operand) : Option (List Res) :=
  match evT E x with
    | .v (.string t) => one E (.i t.size) h
    | _ => none
def o_nilc (call : CallD) (mvf : FuncId → Option Nat) (fx bn : List Nat) (E : Tr) (h : List Blk) (b : Nat) (x : Operand) : Option (List Res) :=
  match evT E x with
    | .ptr k i f => one E (.ptr k i f) h
    | .clo f cs => one E (.clo f cs) h
    | _ => none
def o_not (call : CallD) (mvf : FuncId → Option Nat) (fx bn : List Nat) (E : Tr) (h : List Blk) (b : Nat) (x : Operand) : Option (List Res) :=
  match evT E x with
    | .v (.bool t) => one E (.b (!t)) h
    | _ => none
def o_neg (call : CallD) (mvf : FuncId → Option Nat) (fx bn : List Nat) (E : Tr) (h : List Blk) (b : Nat) (x : Operand) : Option (List Res) :=
  match evT E x with
    | .v (.int k a) => if lo k ≤ -a ∧ -a ≤ hi k then one E (.v (.int k (-a))) h else none
    | _ => none
def o_conv (call : CallD) (mvf : FuncId → Option Nat) (fx bn : List Nat) (E : Tr) (h : List Blk) (b : Nat) (ex : Bool) (k : IntKind) (x : Operand) : Option (List Res) :=
  match evT E x with
    | .v (.int _ a) => if ex then (if lo k ≤ a ∧ a ≤ hi k then one E (.v (.int k a)) h else none) else one E (.v (.int k (k.wrap a))) h
    | _ => none
def o_minmax (call : CallD) (mvf : FuncId → Option Nat) (fx bn : List Nat) (E : Tr) (h : List Blk) (b : Nat) (mx : Bool) (x : Operand) (y : Operand) : Option (List Res) :=
  match evT E x, evT E y with
    | .v (.int k a), .v (.int k' c) => if k' = k then one E (.v (.int k (if mx then max a c else min a c))) h else none
    | _, _ => none
def o_ext (call : CallD) (mvf : FuncId → Option Nat) (fx bn : List Nat) (E : Tr) (h : List Blk) (b : Nat) (x : Operand) (i : Nat) : Option (List Res) :=
  match evT E x with
    | .tup vs => oneO E vs[i]? h
    | _ => none
def o_field (call : CallD) (mvf : FuncId → Option Nat) (fx bn : List Nat) (E : Tr) (h : List Blk) (b : Nat) (off : Nat) (n : Option Nat) (x : Operand) : Option (List Res) :=
  match evT E x with
    | .agg cs => oneO E (loadCsD n off cs) h
    | _ => none
def o_slice (call : CallD) (mvf : FuncId → Option Nat) (fx bn : List Nat) (E : Tr) (h : List Blk) (b : Nat) (z : Nat) (x : Operand) (l : Option Operand) (u : Option Operand) (m : Option Operand) : Option (List Res) :=
  match optD (l.map (evT E)), optD (u.map (evT E)), optD (m.map (evT E)) with
    | some l, some u, some m => oneO E (slcD h z (evT E x) l u m) h
    | _, _, _ => none
def o_eqb (call : CallD) (mvf : FuncId → Option Nat) (fx bn : List Nat) (E : Tr) (h : List Blk) (b : Nat) (neg : Bool) (x : Operand) (y : Operand) : Option (List Res) :=
  match evT E x, evT E y with
    | .v (.bool p), .v (.bool q) => one E (.b (if neg then p != q else p == q)) h
    | _, _ => none
def o_eqn (call : CallD) (mvf : FuncId → Option Nat) (fx bn : List Nat) (E : Tr) (h : List Blk) (b : Nat) (neg : Bool) (x : Operand) (y : Operand) : Option (List Res) :=
  match evT E y with
    | .v _ => match eqnD (evT E x) with
      | some ts => some (ts.map fun t => ⟨.b (if neg then !t else t), E, h⟩)
      | none => none
    | _ => none
def o_lits (call : CallD) (mvf : FuncId → Option Nat) (fx bn : List Nat) (E : Tr) (h : List Blk) (b : Nat) (j : Nat) (sz : Nat) (n : Nat) (z : List Value) (ps : List (Nat × Operand)) : Option (List Res) :=
  match litsD E sz (List.replicate n (z.map .v)) ps with
    | some els => if freshB h (b + j) then one E (.sl (b + j) 0 n) (h.set (b + j) (.arr sz els)) else none
    | none => none
def o_litsf (call : CallD) (mvf : FuncId → Option Nat) (fx bn : List Nat) (E : Tr) (h : List Blk) (b : Nat) (xs : List Nat) (j : Nat) (sz : Nat) (n : Nat) (z : List Value) (ps : List (Nat × Operand)) : Option (List Res) :=
  match frzD (fx ++ bn) xs (E, h) with
    | some (E, h) => match litsD E sz (List.replicate n (z.map .v)) ps with
      | some els => if freshB h (b + j) then one E (.sl (b + j) 0 n) (h.set (b + j) (.arr sz els)) else none
      | none => none
    | none => none
def o_mk (call : CallD) (mvf : FuncId → Option Nat) (fx bn : List Nat) (E : Tr) (h : List Blk) (b : Nat) (j : Nat) (sz : Nat) (bytes : Nat) (z : List Value) (l : Operand) (c : Operand) : Option (List Res) :=
  match evT E l, evT E c with
    | .v (.int _ p), .v (.int _ q) => if ((0 ≤ p ∧ p ≤ q) ∧ (bytes : Int) * q ≤ 281474976710656 ∧ q ≤ 9223372036854775807) ∧ freshB h (b + j) = true then
        one E (.sl (b + j) 0 p.toNat) (h.set (b + j) (.arr sz (List.replicate p.toNat (z.map .v)))) else none
    | _, _ => none
def o_mkv (call : CallD) (mvf : FuncId → Option Nat) (fx bn : List Nat) (E : Tr) (h : List Blk) (b : Nat) (j : Nat) (sz : Nat) (bytes : Nat) (z : List Value) (l : Operand) (c : Operand) : Option (List Res) :=
  match evT E l, evT E c with
    | .v (.int _ p), .v (.int _ q) => if ((0 ≤ p ∧ p ≤ q) ∧ (bytes : Int) * q ≤ 281474976710656 ∧ q ≤ 9223372036854775807) ∧ freshB h (b + j) = true then
        one E (.sl (b + j) 0 p.toNat) (h.set (b + j) (.arv sz (List.replicate p.toNat (z.map .v)))) else none
    | _, _ => none
def o_mkmap (call : CallD) (mvf : FuncId → Option Nat) (fx bn : List Nat) (E : Tr) (h : List Blk) (b : Nat) (j : Nat) (r : Option Operand) : Option (List Res) :=
  if freshB h (b + j) then match r with
      | none => one E (.mp (b + j)) (h.set (b + j) (.map [] 0))
      | some x => match evT E x with
        | .v (.int _ _) => one E (.mp (b + j)) (h.set (b + j) (.map [] 0))
        | _ => none
    else none
def o_lookup (call : CallD) (mvf : FuncId → Option Nat) (fx bn : List Nat) (E : Tr) (h : List Blk) (b : Nat) (kd : TypeDesc) (z : Value) (ok : Bool) (m : Operand) (k : Operand) : Option (List Res) :=
  match evT E k with
    | .v key => if isKey kd key then match evT E m with
        | .v (.map none) => oneO E (lookD (some none) z ok) h
        | m => match mapD h m with
          | some (_, es, _) => oneO E (lookD (mfind kd key es 0) z ok) h
          | none => none
      else none
    | _ => none
def o_mset (call : CallD) (mvf : FuncId → Option Nat) (fx bn : List Nat) (E : Tr) (h : List Blk) (b : Nat) (kd : TypeDesc) (m : Operand) (k : Operand) (x : Operand) : Option (List Res) :=
  match evT E k with
    | .v key => if isKey kd key then match mapD h (evT E m) with
        | some (kb, es, c) => if hasN bn kb then none else match msetD (mfind kd key es 0) key (evT E x) es c with
          | some B => one E (.v (.tuple #[])) (h.set kb B)
          | none => none
        | none => none
      else none
    | _ => none
def o_mdel (call : CallD) (mvf : FuncId → Option Nat) (fx bn : List Nat) (E : Tr) (h : List Blk) (b : Nat) (kd : TypeDesc) (m : Operand) (k : Operand) : Option (List Res) :=
  match evT E k with
    | .v key => if isKey kd key then match mapD h (evT E m) with
        | some (kb, es, c) => if hasN bn kb then none else match mdelD (mfind kd key es 0) es c with
          | some B => one E (.v (.tuple #[])) (h.set kb B)
          | none => none
        | none => none
      else none
    | _ => none
def o_mlen (call : CallD) (mvf : FuncId → Option Nat) (fx bn : List Nat) (E : Tr) (h : List Blk) (b : Nat) (m : Operand) : Option (List Res) :=
  match mapD h (evT E m) with
    | some (_, es, _) => one E (.i es.length) h
    | none => none
def o_range (call : CallD) (mvf : FuncId → Option Nat) (fx bn : List Nat) (E : Tr) (h : List Blk) (b : Nat) (j : Nat) (m : Operand) : Option (List Res) :=
  match mapD h (evT E m) with
    | some (_, _, c) => if freshB h (b + j) then one E (.ptr (b + j) 0 0) (h.set (b + j) (.it (evT E m) c [] c)) else none
    | none => none
def o_next (call : CallD) (mvf : FuncId → Option Nat) (fx bn : List Nat) (E : Tr) (h : List Blk) (b : Nat) (i : Operand) : Option (List Res) :=
  match itD h (evT E i) with
    | some (k, m, since, seen, last) => match mapD h m with
      | some (_, es, c) => if hasN bn k then none else nextD E k m es c since seen last h
      | none => none
    | none => none
def o_entry (call : CallD) (mvf : FuncId → Option Nat) (fx bn : List Nat) (E : Tr) (h : List Blk) (b : Nat) (i : Operand) : Option (List Res) :=
  match itD h (evT E i) with
    | some (_, m, _, seen, last) => match mapD h m with
      | some (_, es, c) => if last = c then match seen.getLast? with
          | some st => match es.find? fun e => e.2.2 == st with
            | some e => one E (.tup [.v e.1, e.2.1]) h
            | none => none
          | none => none
        else none
      | none => none
    | none => none
def o_append (call : CallD) (mvf : FuncId → Option Nat) (fx bn : List Nat) (E : Tr) (h : List Blk) (b : Nat) (j : Nat) (sz : Nat) (bytes : Nat) (x : Operand) (y : Operand) : Option (List Res) :=
  match viewD h (evT E y) with
    | some (sz', new) => if new.isEmpty = true ∨ sz' = sz then appD E fx bn (b + j) sz bytes h (evT E x) new else none
    | none => none
def o_copy (call : CallD) (mvf : FuncId → Option Nat) (fx bn : List Nat) (E : Tr) (h : List Blk) (b : Nat) (sz : Nat) (x : Operand) (y : Operand) : Option (List Res) :=
  match viewD h (evT E y) with
    | some (sz', new) => if new.isEmpty = true ∨ sz' = sz then copyD E bn sz h (evT E x) new else none
    | none => none
def o_call (call : CallD) (mvf : FuncId → Option Nat) (fx bn : List Nat) (E : Tr) (h : List Blk) (b : Nat) (f : FuncId) (xs : List Operand) : Option (List Res) :=
  callD E call mvf fx bn f (xs.map (evT E)) h
def o_callv (call : CallD) (mvf : FuncId → Option Nat) (fx bn : List Nat) (E : Tr) (h : List Blk) (b : Nat) (f : Operand) (xs : List Operand) : Option (List Res) :=
  match evT E f with
    | .clo g cs => callD E call mvf fx bn g (xs.map (evT E) ++ cs) h
    | _ => none
def o_eqf (E : Tr) (h : List Blk) (neg : Bool) (ks : List (Nat × TypeDesc)) (x y : Operand) : Option (List Res) :=
  match aggC (evT E x), aggC (evT E y) with
  | some xs, some ys => match eqFsD xs ys ks with
    | some t => one E (.b (if neg then !t else t)) h
    | none => none
  | _, _ => none
def opD (call : CallD) (mvf : FuncId → Option Nat) (fx bn : List Nat) (o : LOp) (E : Tr) (h : List Blk) (b : Nat) : Option (List Res) :=
  match o with
  | .mov x => one E (evT E x) h
  | .pick c a d => o_pick call mvf fx bn E h b c a d
  | .box j x => o_box call mvf fx bn E h b j x
  | .alloc j z => o_alloc call mvf fx bn E h b j z
  | .load n a => oneO E (loadD h n (evT E a)) h
  | .store n a x => o_store call mvf fx bn E h b n a x
  | .fld off x => o_fld call mvf fx bn E h b off x
  | .idx z x i => o_idx call mvf fx bn E h b z x i
  | .bin op ex x y => o_bin call mvf fx bn E h b op ex x y
  | .shift op x y => o_shift call mvf fx bn E h b op x y
  | .len x => oneO E (lenD (evT E x)) h
  | .lens x => o_lens call mvf fx bn E h b x
  | .nilc x => o_nilc call mvf fx bn E h b x
  | .not x => o_not call mvf fx bn E h b x
  | .neg x => o_neg call mvf fx bn E h b x
  | .conv ex k x => o_conv call mvf fx bn E h b ex k x
  | .minmax mx x y => o_minmax call mvf fx bn E h b mx x y
  | .ext x i => o_ext call mvf fx bn E h b x i
  | .fn f caps => one E (.clo f (caps.map (evT E))) h
  | .field off n x => o_field call mvf fx bn E h b off n x
  | .slice z x l u m => o_slice call mvf fx bn E h b z x l u m
  | .build z ps => oneO E (buildD E (z.map .v) ps) h
  | .eqf neg ks x y => o_eqf E h neg ks x y
  | .eqb neg x y => o_eqb call mvf fx bn E h b neg x y
  | .eqn neg x y => o_eqn call mvf fx bn E h b neg x y
  | .lits j sz n z ps => o_lits call mvf fx bn E h b j sz n z ps
  | .litsf xs j sz n z ps => o_litsf call mvf fx bn E h b xs j sz n z ps
  | .mk j sz bytes z l c => o_mk call mvf fx bn E h b j sz bytes z l c
  | .mkv j sz bytes z l c => o_mkv call mvf fx bn E h b j sz bytes z l c
  | .mkmap j r => o_mkmap call mvf fx bn E h b j r
  | .lookup kd z ok m k => o_lookup call mvf fx bn E h b kd z ok m k
  | .mset kd m k x => o_mset call mvf fx bn E h b kd m k x
  | .mdel kd m k => o_mdel call mvf fx bn E h b kd m k
  | .mlen m => o_mlen call mvf fx bn E h b m
  | .range j m => o_range call mvf fx bn E h b j m
  | .next i => o_next call mvf fx bn E h b i
  | .entry i => o_entry call mvf fx bn E h b i
  | .append j sz bytes x y => o_append call mvf fx bn E h b j sz bytes x y
  | .copy sz x y => o_copy call mvf fx bn E h b sz x y
  | .call f xs => o_call call mvf fx bn E h b f xs
  | .callv f xs => o_callv call mvf fx bn E h b f xs
  | _ => none
end Go.Fx
namespace Go.Fx
open Go.RowKit
mutual
theorem killN_nil : ∀ x : V, kill [] x = x
  | .any => by simp [kill]
  | .v _ => by simp [kill]
  | .ro _ _ => by simp [kill]
  | .bro _ _ => by simp [kill]
  | .full _ _ => by simp [kill]
  | .rp _ _ _ _ => by simp [kill]
  | .sl _ _ _ => by simp [kill]
  | .ptr _ _ _ => by simp [kill]
  | .mp _ => by simp [kill]
  | .itr _ => by simp [kill]
  | .agg cs => by simp [kill, killsN_nil cs]
  | .tup cs => by simp [kill, killsN_nil cs]
  | .clo _ cs => by simp [kill, killsN_nil cs]
theorem killsN_nil : ∀ xs : List V, kills [] xs = xs
  | [] => rfl
  | x :: r => by simp [kills, killN_nil x, killsN_nil r]
end
theorem killE_nilN : ∀ e : Env, killE [] e = e
  | [] => rfl
  | (_, x) :: r => by simp [killE, killN_nil x, killE_nilN r]
theorem killN_B (b : Blk) : killB [] b = b := by
  cases b with
  | var cs => simp [killB, killsN_nil]
  | arv sz els => simp [killB, killsN_nil, funext killsN_nil]
  | map es c =>
    simp only [killB, killN_nil]
    congr 1
    simp
  | it m s sn l => simp [killB, killN_nil]
  | rcd t e => simp [killB, killE_nilN]
  | _ => rfl
theorem hasN_iff {l : List Nat} {n : Nat} : hasN l n = true ↔ n ∈ l := by
  unfold hasN
  simp only [List.any_eq_true, Nat.beq_eq]
  exact ⟨fun ⟨x, hx, e⟩ => e ▸ hx, fun h => ⟨n, h, rfl⟩⟩
theorem hasN_not {l : List Nat} {n : Nat} (h : hasN l n = false) : n ∉ l := fun hm => by rw [hasN_iff.2 hm] at h; cases h
mutual
theorem wk_refl : ∀ x : V, wk x x
  | .any => by simp [wk]
  | .v _ => by simp [wk]
  | .ro _ _ => by simp [wk, wkR]
  | .bro _ _ => by simp [wk, wkB]
  | .full _ _ => by simp [wk]
  | .rp _ _ _ _ => by simp [wk]
  | .sl _ _ _ => by simp [wk]
  | .ptr _ _ _ => by simp [wk]
  | .mp _ => by simp [wk]
  | .itr _ => by simp [wk]
  | .agg cs => by simp [wk, wkL_refl cs]
  | .tup cs => by simp [wk, wkL_refl cs]
  | .clo _ cs => by simp [wk, wkL_refl cs]
theorem wkL_refl : ∀ xs : List V, wkL xs xs
  | [] => by simp [wkL]
  | x :: r => by simp [wkL, wk_refl x, wkL_refl r]
end
mutual
theorem lendOk_of {h : List Blk} {g : Nat → Option Nat} : ∀ x : V, lendOkB h g x = true → lendOk h g x
  | .sl k i n, hx => by
    simp only [lendOkB] at hx
    simp only [lendOk]
    split
    · trivial
    · rename_i hg
      simp only [hg] at hx
      split
      · rename_i hb; simp only [hb] at hx; simpa using hx
      · trivial
  | .agg cs, hx => lendsOk_of cs (by simpa [lendOkB] using hx)
  | .tup cs, hx => lendsOk_of cs (by simpa [lendOkB] using hx)
  | .clo _ cs, hx => lendsOk_of cs (by simpa [lendOkB] using hx)
  | .any, _ | .v _, _ | .ro _ _, _ | .bro _ _, _ | .full _ _, _ | .rp _ _ _ _, _ | .ptr _ _ _, _ | .mp _, _ | .itr _, _ => by simp [lendOk]
theorem lendsOk_of {h : List Blk} {g : Nat → Option Nat} : ∀ xs : List V, lendsOkB h g xs = true → lendsOk h g xs
  | [], _ => by simp [lendsOk]
  | x :: r, hx => by
    simp only [lendsOkB, Bool.and_eq_true] at hx
    exact ⟨lendOk_of x hx.1, lendsOk_of r hx.2⟩
end
theorem live_of {h : List Blk} {k : Nat} (hl : liveB h k = true) : liveP h k := by
  unfold liveB at hl
  unfold liveP
  cases hb : h[k]? with
  | none => rw [hb] at hl; cases hl
  | some B => rw [hb] at hl; cases B <;> first | exact True.intro | cases hl
theorem keep_of {h : List Blk} {fx : List Nat} (hk : keepB h fx = true) : keepP fx h :=
  keepP_mk fun k hk' => live_of (List.all_eq_true.1 hk k hk')
theorem nodup_of : ∀ {l : List Nat}, nodupB l = true → l.Nodup
  | [], _ => List.nodup_nil
  | k :: r, h => by
    simp only [nodupB, Bool.and_eq_true, Bool.not_eq_true'] at h
    exact List.nodup_cons.2 ⟨hasN_not h.1, nodup_of h.2⟩
theorem loadCs_ok {n : Option Nat} {f : Nat} {cs : List V} {x : V} {K : V → Prop} (h : loadCsD n f cs = some x) (hK : K x) : loadCs n f cs K := by
  unfold loadCsD at h
  unfold loadCs
  split at h
  · rw [h]; exact hK
  · split at h
    · rename_i hc; simp only [Option.some.injEq] at h; subst h; exact ⟨hc, hK⟩
    · cases h
theorem loadB_ok {n : Option Nat} {i f : Nat} {b : Blk} {x : V} {K : V → Prop} (h : loadBD n i f b = some x) (hK : K x) : loadB n i f b K := by
  unfold loadBD at h
  unfold loadB
  split at h
  · exact loadCs_ok h hK
  · split at h
    · rename_i e he
      obtain ⟨hi, rfl⟩ := List.getElem?_eq_some_iff.1 he
      exact ⟨hi, loadCs_ok h hK⟩
    · cases h
  · split at h
    · rename_i e he
      obtain ⟨hi, rfl⟩ := List.getElem?_eq_some_iff.1 he
      exact ⟨hi, loadCs_ok h hK⟩
    · cases h
  · cases h
theorem load_ok {h : List Blk} {n : Option Nat} {p x : V} {K : V → Prop} (hd : loadD h n p = some x) (hK : K x) : loadP h n p K := by
  unfold loadD at hd
  unfold loadP
  split at hd
  · exact loadB_ok hd hK
  · split at hd
    · rename_i e he
      obtain ⟨hi, rfl⟩ := List.getElem?_eq_some_iff.1 he
      exact ⟨hi, loadCs_ok hd hK⟩
    · cases hd
  · cases hd
theorem storeB_ok {n i f : Nat} {cs : List V} {b b' : Blk} {K : Blk → Prop} (h : storeBD n i f cs b = some b') (hK : K b') : storeB n i f cs b K := by
  unfold storeBD at h
  unfold storeB
  split at h
  · split at h
    · rename_i hc; simp only [Option.some.injEq] at h; subst h; exact ⟨hc, hK⟩
    · cases h
  · split at h
    · rename_i e he
      obtain ⟨hi, rfl⟩ := List.getElem?_eq_some_iff.1 he
      split at h
      · rename_i hc; simp only [Option.some.injEq] at h; subst h; exact ⟨hc, hi, hK⟩
      · cases h
    · cases h
  · split at h
    · rename_i e he
      obtain ⟨hi, rfl⟩ := List.getElem?_eq_some_iff.1 he
      split at h
      · rename_i hc; simp only [Option.some.injEq] at h; subst h; exact ⟨hc, hi, hK⟩
      · cases h
    · cases h
  · cases h
theorem store_ok {bn : List Nat} {h h' : List Blk} {n : Nat} {p : V} {cs : List V} {K : List Blk → Prop} (hd : storeD bn h n p cs = some h') (hK : K h') : storeP bn h n p cs K := by
  unfold storeD at hd
  unfold storeP
  split at hd
  · split at hd
    · rename_i hc
      simp only [Option.map_eq_some_iff] at hd
      obtain ⟨b, hb, rfl⟩ := hd
      exact ⟨⟨hc.1, hasN_not hc.2.1⟩, hc.2.2, storeB_ok hb hK⟩
    · cases hd
  · cases hd
theorem arrSz_ok {z : Nat} {b : Blk} (h : arrSzB z b = true) : arrSz z b := by
  unfold arrSzB at h
  unfold arrSz
  split at h <;> simp_all
theorem idx_ok {h : List Blk} {z : Nat} {n : Int} {x y : V} {K : V → Prop} (hd : idxD h z n x = some y) (hK : K y) : idxP h z n x K := by
  unfold idxD at hd
  unfold idxP
  split at hd
  · split at hd
    · rename_i hc; simp only [Option.some.injEq] at hd; subst hd; exact ⟨arrSz_ok hc.1, hc.2, hK⟩
    · cases hd
  all_goals first
    | (split at hd
       · rename_i hc; simp only [Option.some.injEq] at hd; subst hd; exact ⟨hc.1, hc.2, hK⟩
       · cases hd)
    | cases hd
theorem len_ok {x y : V} {K : V → Prop} (hd : lenD x = some y) (hK : K y) : lenP x K := by
  unfold lenD at hd
  unfold lenP
  split at hd <;> first | (simp only [Option.some.injEq] at hd; subst hd; first | exact fun _ => hK | exact hK) | cases hd
theorem view_ok {h : List Blk} {x : V} {p : Nat × List (List V)} {K : Nat → List (List V) → Prop} (hd : viewD h x = some p) (hK : K p.1 p.2) : viewK h x K := by
  unfold viewD at hd
  unfold viewK
  split at hd
  · split at hd
    · rename_i hb
      split at hd
      · rename_i hc; simp only [Option.some.injEq] at hd; subst hd; simp only [hb]; exact ⟨hc, hK⟩
      · cases hd
    · cases hd
  all_goals first | (simp only [Option.some.injEq] at hd; subst hd; exact hK) | cases hd
theorem opt_ok {o : Option V} {r : Option Int} {K : Option Int → Prop} (hd : optD o = some r) (hK : K r) : optI o K := by
  unfold optD at hd
  unfold optI
  split at hd <;> first | (simp only [Option.some.injEq] at hd; subst hd; exact hK) | cases hd
theorem slc_ok {h : List Blk} {z : Nat} {x y : V} {l u m : Option Int} {K : V → Prop} (hd : slcD h z x l u m = some y) (hK : K y) : slcP h z x l u m K := by
  unfold slcD at hd
  unfold slcP
  split at hd
  · split at hd
    · rename_i hc; simp only [Option.some.injEq] at hd; subst hd; exact ⟨arrSz_ok hc.1, hc.2, hK⟩
    · cases hd
  all_goals first
    | (split at hd
       · rename_i hc; simp only [Option.some.injEq] at hd; subst hd; exact ⟨hc.1, hc.2, hK⟩
       · cases hd)
    | (split at hd
       · rename_i hc; simp only [Option.some.injEq] at hd; subst hd; exact ⟨hc, hK⟩
       · cases hd)
    | cases hd
section
variable {e : Env} {E : Tr} (he : ∀ i, get e i = E.get i)
include he
theorem ev_ok (x : Operand) : ev e x = evT E x := by
  cases x with
  | tmp t => exact he t
  | _ => rfl
theorem evs_ok (xs : List Operand) : xs.map (ev e) = xs.map (evT E) := by
  apply List.map_congr_left
  intro x _
  exact ev_ok he x
theorem evo_ok (x : Option Operand) : x.map (ev e) = x.map (evT E) := by
  cases x with
  | none => rfl
  | some x => simp [ev_ok he x]
theorem build_ok {y : V} {K : V → Prop} (hK : K y) : ∀ (ps : List (Nat × Nat × Operand)) (acc : List V), buildD E acc ps = some y → buildP e acc ps K
  | [], acc, h => by simp only [buildD, Option.some.injEq] at h; subst h; exact hK
  | (off, sz, x) :: r, acc, h => by
    simp only [buildD] at h
    simp only [buildP, ev_ok he x]
    split at h
    · rename_i cs hc
      split at h
      · rename_i hq; rw [hc]; exact ⟨hq, build_ok hK r _ h⟩
      · cases h
    · cases h
theorem lits_ok {sz : Nat} {els : List (List V)} {K : List (List V) → Prop} (hK : K els) : ∀ (ps : List (Nat × Operand)) (acc : List (List V)), litsD E sz acc ps = some els → litsP e sz acc ps K
  | [], acc, h => by simp only [litsD, Option.some.injEq] at h; subst h; exact hK
  | (i, x) :: r, acc, h => by
    simp only [litsD] at h
    simp only [litsP, ev_ok he x]
    split at h
    · rename_i cs hc
      split at h
      · rename_i hq; rw [hc]; exact ⟨⟨⟨hq.1, hq.2.1⟩, hq.2.2⟩, lits_ok hK r _ h⟩
      · cases h
    · cases h
end
theorem get_frzT (k sz : Nat) (els : List (List V)) : ∀ (E : Tr) (i : Nat), (frzT k sz els E).get i = frzV k sz els (E.get i)
  | .lf, _ => by simp [frzT, Tr.get, frzV]
  | .nd v l r, i => by
    cases i with
    | zero => rfl
    | succ j =>
      simp only [frzT, Tr.get]
      split
      · exact get_frzT k sz els l _
      · exact get_frzT k sz els r _
theorem frzD_ok {fx : List Nat} {b : Nat} {E' : Tr} {h' : List Blk} {K : St → Prop} : ∀ (xs : List Nat) (E : Tr) (h : List Blk) (e : Env), (∀ i, get e i = E.get i) → frzD fx xs (E, h) = some (E', h') → (∀ e', (∀ i, get e' i = E'.get i) → K ⟨e', h', b⟩) → frzP fx xs ⟨e, h, b⟩ K
  | [], E, h, e, he, hd, hK => by
    simp only [frzD, Option.some.injEq, Prod.mk.injEq] at hd
    obtain ⟨rfl, rfl⟩ := hd
    exact hK e he
  | x :: r, E, h, e, he, hd, hK => by
    simp only [frzD] at hd
    simp only [frzP, he x]
    split at hd
    · rename_i k i n hx
      rw [hx]
      show frz1 fx k (blk h k) _ _
      split at hd
      · rename_i sz els hb
        rw [hb]
        split at hd
        · cases hd
        · rename_i hk
          exact ⟨hasN_not (by simpa using hk), frzD_ok r _ _ _ (fun i => by rw [get_frzE, get_frzT, he]) hd hK⟩
      · rename_i hb
        unfold frz1
        split
        · rename_i hb'; exact (hb _ _ hb').elim
        · exact frzD_ok r _ _ _ he hd hK
    · rename_i hne
      split
      · rename_i hx; exact (hne _ _ _ hx).elim
      · exact frzD_ok r _ _ _ he hd hK
theorem fresh_ok {h : List Blk} {k : Nat} (hd : freshB h k = true) : freshP h k := by
  unfold freshB at hd
  unfold freshP
  split at hd
  · rename_i hb; rw [hb]; trivial
  · cases hd
theorem ex_ok {ex : Bool} {k : IntKind} {c : Int} {y : V} {K : V → Prop} (hd : exD ex k c = some y) (hK : K y) : if ex then (lo k ≤ c ∧ c ≤ hi k) ∧ K (.v (.int k c)) else K (.v (.int k (k.wrap c))) := by
  unfold exD at hd
  split at hd
  · rename_i h1
    rw [if_pos h1]
    split at hd
    · rename_i h2; simp only [Option.some.injEq] at hd; subst hd; exact ⟨h2, hK⟩
    · cases hd
  · rename_i h1; simp only [Option.some.injEq] at hd; subst hd; rw [if_neg h1]; exact hK
theorem bin_ok {op : BinOp} {ex : Bool} {k : IntKind} {a b : Int} {y : V} {K : V → Prop} (hd : binD op ex k a b = some y) (hK : K y) : binInt op ex k a b K := by
  unfold binD at hd
  unfold binInt
  cases op <;> simp only at hd ⊢
  case add | sub | mul => exact ex_ok hd hK
  case quo =>
    unfold quoD at hd
    split at hd
    · rename_i h0; exact ⟨h0, ex_ok hd hK⟩
    · cases hd
  case rem =>
    unfold remD at hd
    split at hd
    · rename_i h0; simp only [Option.some.injEq] at hd; subst hd; exact ⟨h0, hK⟩
    · cases hd
  case and | or | xor | andNot => simp only [andBD, orBD, xorBD, andNotBD, Option.some.injEq] at hd; subst hd; exact hK
  case eql => rw [eqZ_eq] at hd; simp only [Option.some.injEq] at hd; subst hd; exact hK
  case neq => rw [eqZ_eq] at hd; simp only [Option.some.injEq] at hd; subst hd; exact hK
  case lss | gtr => rw [ltZ_eq] at hd; simp only [Option.some.injEq] at hd; subst hd; exact hK
  case leq | geq =>
    rw [ltZ_eq] at hd
    simp only [Option.some.injEq] at hd
    subst hd
    have : ∀ u v : Int, (!decide (v < u)) = decide (u ≤ v) := by intro u v; rw [Bool.eq_iff_iff]; simp
    rw [this] at hK
    exact hK
  all_goals first | (simp only [Option.some.injEq] at hd; subst hd; exact hK) | cases hd
theorem eqFsD_ok {xs ys : List V} : ∀ {K : Bool → Prop} (ks : List (Nat × TypeDesc)) (t : Bool), eqFsD xs ys ks = some t → K t → eqFs xs ys ks K
  | K, [], t, h, hK => by
    simp only [eqFsD, Option.some.injEq] at h
    subst h
    exact hK
  | K, f :: r, t, h, hK => by
    simp only [eqFsD] at h
    simp only [eqFs, eqC]
    split at h
    · rename_i a b ha hb
      rw [ha, hb]
      split at h
      · rename_i hc
        simp only [Bool.and_eq_true] at hc
        split at h
        · rename_i u hu
          simp only [Option.some.injEq] at h
          subst h
          exact ⟨hc, eqFsD_ok r u hu hK⟩
        · cases h
      · cases h
    · cases h
theorem shift_ok {op : BinOp} {k : IntKind} {a b : Int} {y : V} {K : V → Prop} (hd : shiftD op k a b = some y) (hK : K y) : shiftInt op k a b K := by
  unfold shiftD at hd
  unfold shiftInt
  split at hd
  · split at hd
    · rename_i h0; simp only [Option.some.injEq] at hd; subst hd; exact ⟨h0, hK⟩
    · cases hd
  · split at hd
    · rename_i h0; simp only [Option.some.injEq] at hd; subst hd; exact ⟨h0, hK⟩
    · cases hd
  · cases hd
theorem map_ok {h : List Blk} {x : V} {p : Nat × List (Value × V × Nat) × Nat} {K : Nat → List (Value × V × Nat) → Nat → Prop} (hd : mapD h x = some p) (hK : K p.1 p.2.1 p.2.2) : mapK h x K := by
  unfold mapD at hd
  unfold mapK
  split at hd
  · split at hd
    · rename_i hb; simp only [Option.some.injEq] at hd; subst hd; simp only [hb, mapB]; exact hK
    · cases hd
  · cases hd
theorem look_ok {r : Option (Option (Nat × V))} {z : Value} {ok : Bool} {y : V} {K : V → Prop} (hd : lookD r z ok = some y) (hK : K y) : lookK r z ok K := by
  unfold lookD at hd
  unfold lookK
  split at hd <;> first | (simp only [Option.some.injEq] at hd; subst hd; exact hK) | cases hd
theorem mset_ok {r : Option (Option (Nat × V))} {key : Value} {x : V} {es : List (Value × V × Nat)} {c : Nat} {B : Blk} {K : Blk → Prop} (hd : msetD r key x es c = some B) (hK : K B) : msetK r key x es c K := by
  unfold msetD at hd
  unfold msetK
  split at hd <;> first | (simp only [Option.some.injEq] at hd; subst hd; exact hK) | cases hd
theorem mdel_ok {r : Option (Option (Nat × V))} {es : List (Value × V × Nat)} {c : Nat} {B : Blk} {K : Blk → Prop} (hd : mdelD r es c = some B) (hK : K B) : mdelK r es c K := by
  unfold mdelD at hd
  unfold mdelK
  split at hd <;> first | (simp only [Option.some.injEq] at hd; subst hd; exact hK) | cases hd
theorem it_ok {h : List Blk} {x : V} {p : Nat × V × Nat × List Nat × Nat} {K : Nat → V → Nat → List Nat → Nat → Prop} (hd : itD h x = some p) (hK : K p.1 p.2.1 p.2.2.1 p.2.2.2.1 p.2.2.2.2) : itK h x K := by
  unfold itD at hd
  unfold itK
  split at hd
  · split at hd
    · rename_i hb; simp only [Option.some.injEq] at hd; subst hd; simp only [hb, itB]; exact hK
    · cases hd
  · cases hd
section
variable {C : Ctr} {it : Itr} {yy : Nat → Yt} {rk : Option Nat} {fx bn : List Nat} {call : CallD} {mvf : FuncId → Option Nat} {E : Tr} {h : List Blk} {b : Nat} {e : Env} {rs : List Res} {K : V → St → Prop}
def KOk (b : Nat) (rs : List Res) (K : V → St → Prop) : Prop := ∀ r ∈ rs, ∀ e', (∀ i, get e' i = r.E.get i) → K r.x ⟨e', r.h, b⟩
theorem kok1 {x : V} {E' : Tr} {h' : List Blk} (hK : KOk b [⟨x, E', h'⟩] K) {e' : Env} (h : ∀ i, get e' i = E'.get i) : K x ⟨e', h', b⟩ :=
  hK ⟨x, E', h'⟩ (by simp) e' h
theorem killIf_get {M : List Nat} {E : Tr} {e : Env} (he : ∀ i, get e i = E.get i) : ∀ i, get (killE M e) i = (killIf M E).get i := by
  intro i
  rw [get_killE, he]
  unfold killIf
  split
  · rw [killN_nil]
  · rw [Tr.get_kill]
theorem one_ok (he : ∀ i, get e i = E.get i) {x : V} {h' : List Blk} (hd : one E x h' = some rs) (hK : KOk b rs K) : K x ⟨e, h', b⟩ := by
  simp only [one, Option.some.injEq] at hd
  subst hd
  exact kok1 hK he
theorem oneO_ok (he : ∀ i, get e i = E.get i) {o : Option V} {h' : List Blk} (hd : oneO E o h' = some rs) (hK : KOk b rs K) : ∃ x, o = some x ∧ K x ⟨e, h', b⟩ := by
  unfold oneO at hd
  split at hd
  · exact ⟨_, rfl, one_ok he hd hK⟩
  · cases hd
theorem callD_ok (hcall : ∀ f zas h0 mv r h', call f zas h0 mv = some (r, h') → C f zas h0 mv (fun r1 h1 => r1 = r ∧ h1 = h')) (he : ∀ i, get e i = E.get i) {f : FuncId} {args : List V} (hd : callD E call mvf fx bn f args h = some rs) (hK : KOk b rs K) :
    callP { C := C, fx := fx, bn := bn, it := it, y := yy, rk := rk } f args ⟨e, h, b⟩ K := by
  unfold callD at hd
  generalize without bn (reach h 1000 (namesL args) []) = ι at hd
  generalize mvOf (mvf f) ι.length = mv at hd
  unfold callI at hd
  split at hd
  · rename_i hc
    simp only [Bool.and_eq_true, List.all_eq_true, decide_eq_true_eq, Bool.not_eq_true', Bool.or_eq_true] at hc
    obtain ⟨⟨h1, h2⟩, h3, h4⟩ := hc
    split at hd
    · rename_i r h' hcl
      have hh : (if mv.isEmpty = true then h else h.map (killB (mv.filterMap (ι[·]?)))) = h.map (killB (mv.filterMap (ι[·]?))) := by
        cases mv with
        | nil => simp [killN_B, funext killN_B]
        | cons _ _ => rfl
      rw [hh] at hd
      unfold afterD at hd
      split at hd
      · rename_i hkp
        simp only [Option.some.injEq] at hd
        subst hd
        refine ⟨ι, _, mv, _, ⟨⟨nodup_of h1, fun k hk => ⟨(h2 k hk).1, hasN_not (h2 k hk).2⟩⟩, fun j hj k hk => ?_⟩, lendsOk_of _ h3, wkL_refl _, hcall _ _ _ _ _ _ hcl, ?_⟩
        · rcases h4 with h4 | h4
          · have : mv = [] := by simpa using h4
            subst this
            simp at hj
          · exact hasN_not (h4 k (List.mem_of_getElem? hk))
        · rintro r1 h1' ⟨rfl, rfl⟩ hl
          exact ⟨keep_of hkp, kok1 hK (e' := killE (mv.filterMap (ι[·]?)) e) (killIf_get he)⟩
      · cases hd
    · cases hd
  · cases hd
theorem opD_ok (hcall : ∀ f zas h0 mv r h', call f zas h0 mv = some (r, h') → C f zas h0 mv (fun r1 h1 => r1 = r ∧ h1 = h')) (he : ∀ i, get e i = E.get i) {o : LOp} (hd : opD call mvf fx bn o E h b = some rs) (hK : KOk b rs K) :
    aOp { C := C, fx := fx, bn := bn, it := it, y := yy, rk := rk } o ⟨e, h, b⟩ K := by
  have hv := ev_ok he
  cases o with
  | mov x => simp only [opD] at hd; simp only [aOp, hv]; exact one_ok he hd hK
  | pick c a d =>
    simp only [opD, o_pick] at hd
    simp only [aOp, hv]
    split at hd
    · rename_i t hc
      rw [hc]
      have := one_ok he hd hK
      cases t with
      | true => exact ⟨fun _ => this, fun h => by cases h⟩
      | false => exact ⟨fun h => (by cases h), fun _ => this⟩
    · cases hd
  | box j x =>
    simp only [opD, o_box] at hd
    simp only [aOp, hv]
    split at hd
    · rename_i cs hc
      split at hd
      · rename_i hf; rw [hc]; exact ⟨fresh_ok hf, one_ok he hd hK⟩
      · cases hd
    · cases hd
  | alloc j z =>
    simp only [opD, o_alloc] at hd
    simp only [aOp]
    split at hd
    · rename_i cs hc
      split at hd
      · rename_i hf; rw [hc]; exact ⟨fresh_ok hf, one_ok he hd hK⟩
      · cases hd
    · cases hd
  | load n a =>
    simp only [opD] at hd
    simp only [aOp, hv]
    obtain ⟨x, hx, hk⟩ := oneO_ok he hd hK
    exact load_ok hx hk
  | store n a x =>
    simp only [opD, o_store] at hd
    simp only [aOp, hv]
    split at hd
    · rename_i cs hc
      split at hd
      · rename_i h' hs; rw [hc]; exact store_ok (K := fun h => K (.v (.tuple #[])) ⟨e, h, b⟩) hs (one_ok he hd hK)
      · cases hd
    · cases hd
  | fld off x =>
    simp only [opD, o_fld] at hd
    simp only [aOp, hv]
    split at hd
    · rename_i hx; rw [hx]; exact one_ok he hd hK
    · rename_i hx; rw [hx]; exact one_ok he hd hK
    · cases hd
  | idx z x i =>
    simp only [opD, o_idx] at hd
    simp only [aOp, hv]
    split at hd
    · rename_i hx
      rw [hx]
      obtain ⟨y, hy, hk⟩ := oneO_ok he hd hK
      exact idx_ok (K := fun y => K y ⟨e, h, b⟩) hy hk
    · cases hd
  | bin op ex x y =>
    simp only [opD, o_bin] at hd
    simp only [aOp, hv]
    split at hd
    · rename_i hx hy
      split at hd
      · rename_i hk
        rw [hx, hy]
        obtain ⟨z, hz, hk'⟩ := oneO_ok he hd hK
        exact ⟨hk, bin_ok hz hk'⟩
      · cases hd
    · cases hd
  | shift op x y =>
    simp only [opD, o_shift] at hd
    simp only [aOp, hv]
    split at hd
    · rename_i hx hy
      rw [hx, hy]
      obtain ⟨z, hz, hk'⟩ := oneO_ok he hd hK
      exact shift_ok (K := fun y => K y ⟨e, h, b⟩) hz hk'
    · cases hd
  | len x =>
    simp only [opD] at hd
    simp only [aOp, hv]
    obtain ⟨y, hy, hk⟩ := oneO_ok he hd hK
    exact len_ok hy hk
  | lens x =>
    simp only [opD, o_lens] at hd
    simp only [aOp, hv]
    split at hd
    · rename_i hx; rw [hx]; exact one_ok he hd hK
    · cases hd
  | nilc x =>
    simp only [opD, o_nilc] at hd
    simp only [aOp, hv]
    split at hd
    · rename_i hx; rw [hx]; exact one_ok he hd hK
    · rename_i hx; rw [hx]; exact one_ok he hd hK
    · cases hd
  | not x =>
    simp only [opD, o_not] at hd
    simp only [aOp, hv]
    split at hd
    · rename_i hx; rw [hx]; exact one_ok he hd hK
    · cases hd
  | neg x =>
    simp only [opD, o_neg] at hd
    simp only [aOp, hv]
    split at hd
    · rename_i hx
      split at hd
      · rename_i hc; rw [hx]; simp only [intK, wrap_in _ _ hc]; exact one_ok he hd hK
      · cases hd
    · cases hd
  | conv ex k x =>
    simp only [opD, o_conv] at hd
    simp only [aOp, hv]
    split at hd
    · rename_i hx
      rw [hx]
      show (if _ then _ else _)
      split at hd
      · rename_i hex
        split at hd
        · rename_i hc; rw [if_pos hex]; exact ⟨hc, one_ok he hd hK⟩
        · cases hd
      · rename_i hex; rw [if_neg hex]; exact one_ok he hd hK
    · cases hd
  | minmax mx x y =>
    simp only [opD, o_minmax] at hd
    simp only [aOp, hv]
    split at hd
    · rename_i hx hy
      split at hd
      · rename_i hk; rw [hx, hy]; exact ⟨hk, one_ok he hd hK⟩
      · cases hd
    · cases hd
  | ext x i =>
    simp only [opD, o_ext] at hd
    simp only [aOp, hv]
    split at hd
    · rename_i vs hx
      rw [hx]
      obtain ⟨y, hy, hk⟩ := oneO_ok he hd hK
      show optK vs[i]? _
      rw [hy]; exact hk
    · cases hd
  | fn f caps =>
    simp only [opD] at hd
    simp only [aOp, evs_ok he]
    exact one_ok he hd hK
  | field off n x =>
    simp only [opD, o_field] at hd
    simp only [aOp, hv]
    split at hd
    · rename_i cs hx
      rw [hx]
      obtain ⟨y, hy, hk⟩ := oneO_ok he hd hK
      exact loadCs_ok hy hk
    · cases hd
  | slice z x l u m =>
    simp only [opD, o_slice] at hd
    simp only [aOp, hv, evo_ok he]
    split at hd
    · rename_i l' u' m' h1 h2 h3
      obtain ⟨y, hy, hk⟩ := oneO_ok he hd hK
      exact opt_ok h1 (opt_ok h2 (opt_ok h3 (slc_ok hy hk)))
    · cases hd
  | build z ps =>
    simp only [opD] at hd
    simp only [aOp]
    obtain ⟨y, hy, hk⟩ := oneO_ok he hd hK
    exact build_ok (K := fun y => K y ⟨e, h, b⟩) he hk ps _ hy
  | eqb neg x y =>
    simp only [opD, o_eqb] at hd
    simp only [aOp, hv]
    split at hd
    · rename_i hx hy; rw [hx, hy]; exact one_ok he hd hK
    · cases hd
  | eqn neg x y =>
    simp only [opD, o_eqn] at hd
    simp only [aOp, hv]
    split at hd
    · rename_i hy
      rw [hy]
      split at hd
      · rename_i ts ht
        simp only [Option.some.injEq] at hd
        subst hd
        have hk : ∀ t ∈ ts, K (.b (if neg then !t else t)) ⟨e, h, b⟩ := fun t ht => hK ⟨.b (if neg then !t else t), E, h⟩ (by simp only [List.mem_map]; exact ⟨t, ht, rfl⟩) e he
        show eqnP (evT E x) _
        generalize evT E x = v at ht ⊢
        unfold eqnD at ht
        unfold eqnP
        split at ht
        · split at ht
          · rename_i hn
            simp only [Option.some.injEq] at ht
            subst ht
            exact ⟨fun h => by omega, fun _ => ⟨hk true (by simp), hk false (by simp)⟩⟩
          · rename_i hn
            simp only [Option.some.injEq] at ht
            subst ht
            exact ⟨fun _ => hk false (by simp), fun h => absurd h hn⟩
        · split at ht
          · simp only [Option.some.injEq] at ht
            subst ht
            exact ⟨fun h => absurd rfl h, fun _ => ⟨hk true (by simp), hk false (by simp)⟩⟩
          · rename_i hn
            simp only [Option.some.injEq] at ht
            subst ht
            exact ⟨fun _ => hk false (by simp), fun h => (hn h).elim⟩
        · split at ht
          · simp only [Option.some.injEq] at ht
            subst ht
            exact ⟨fun h => absurd rfl h, fun _ => ⟨hk true (by simp), hk false (by simp)⟩⟩
          · rename_i hn
            simp only [Option.some.injEq] at ht
            subst ht
            exact ⟨fun _ => hk false (by simp), fun h => (hn h).elim⟩
        · simp only [Option.some.injEq] at ht
          subst ht
          exact hk true (by simp)
        · cases ht
      · cases hd
    · cases hd
  | lits j sz n z ps =>
    simp only [opD, o_lits] at hd
    simp only [aOp]
    split at hd
    · rename_i els hl
      split at hd
      · rename_i hf
        exact lits_ok (K := fun els => freshP h (b + j) ∧ K (.sl (b + j) 0 n) { e := e, h := h.set (b + j) (.arr sz els), b := b }) he ⟨fresh_ok hf, one_ok he hd hK⟩ ps _ hl
      · cases hd
    · cases hd
  | litsf xs j sz n z ps =>
    simp only [opD, o_litsf] at hd
    simp only [aOp]
    split at hd
    · rename_i E' h' hf
      obtain hfz := frzD_ok (b := b) (K := fun s => litsP s.e sz (List.replicate n (z.map .v)) ps fun els => freshP s.h (s.b + j) ∧ K (.sl (s.b + j) 0 n) { s with h := s.h.set (s.b + j) (.arr sz els) }) xs E h e he hf
      refine hfz fun e' he' => ?_
      split at hd
      · rename_i els hl
        split at hd
        · rename_i hf
          exact lits_ok (K := fun els => freshP h' (b + j) ∧ K (.sl (b + j) 0 n) { e := e', h := h'.set (b + j) (.arr sz els), b := b }) he' ⟨fresh_ok hf, one_ok he' hd hK⟩ ps _ hl
        · cases hd
      · cases hd
    · cases hd
  | mk j sz bytes z l c =>
    simp only [opD, o_mk] at hd
    simp only [aOp, hv]
    split at hd
    · rename_i hx hy
      split at hd
      · rename_i hc; rw [hx, hy]; exact ⟨hc.1, fresh_ok hc.2, one_ok he hd hK⟩
      · cases hd
    · cases hd
  | mkv j sz bytes z l c =>
    simp only [opD, o_mkv] at hd
    simp only [aOp, hv]
    split at hd
    · rename_i hx hy
      split at hd
      · rename_i hc; rw [hx, hy]; exact ⟨hc.1, fresh_ok hc.2, one_ok he hd hK⟩
      · cases hd
    · cases hd
  | mkmap j r =>
    simp only [opD, o_mkmap] at hd
    simp only [aOp]
    split at hd
    · rename_i hf
      split at hd
      · exact ⟨trivial, fresh_ok hf, one_ok he hd hK⟩
      · rename_i x
        split at hd
        · rename_i hx
          refine ⟨?_, fresh_ok hf, one_ok he hd hK⟩
          show intK (ev e x) _
          rw [hv, hx]; trivial
        · cases hd
    · cases hd
  | lookup kd z ok m k =>
    simp only [opD, o_lookup] at hd
    simp only [aOp, hv]
    split at hd
    · rename_i key hk
      split at hd
      · rename_i hkey
        rw [hk]
        refine ⟨hkey, ?_⟩
        split at hd
        · rename_i hm
          obtain ⟨y, hy, hk⟩ := oneO_ok he hd hK
          rw [hm]
          exact look_ok hy hk
        · rename_i hne
          split at hd
          · rename_i kb es c hmp
            obtain ⟨y, hy, hk⟩ := oneO_ok he hd hK
            split
            · rename_i hm; rw [hm] at hmp; simp [mapD] at hmp
            · exact map_ok hmp (look_ok hy hk)
          · cases hd
      · cases hd
    · cases hd
  | mset kd m k x =>
    simp only [opD, o_mset] at hd
    simp only [aOp, hv]
    split at hd
    · rename_i key hk
      split at hd
      · rename_i hkey
        rw [hk]
        refine ⟨hkey, ?_⟩
        split at hd
        · rename_i kb es c hmp
          split at hd
          · cases hd
          · rename_i hbn
            split at hd
            · rename_i B hB
              exact map_ok hmp ⟨hasN_not (by simpa using hbn), mset_ok hB (one_ok he hd hK)⟩
            · cases hd
        · cases hd
      · cases hd
    · cases hd
  | mdel kd m k =>
    simp only [opD, o_mdel] at hd
    simp only [aOp, hv]
    split at hd
    · rename_i key hk
      split at hd
      · rename_i hkey
        rw [hk]
        refine ⟨hkey, ?_⟩
        split at hd
        · rename_i kb es c hmp
          split at hd
          · cases hd
          · rename_i hbn
            split at hd
            · rename_i B hB
              exact map_ok hmp ⟨hasN_not (by simpa using hbn), mdel_ok hB (one_ok he hd hK)⟩
            · cases hd
        · cases hd
      · cases hd
    · cases hd
  | mlen m =>
    simp only [opD, o_mlen] at hd
    simp only [aOp, hv]
    split at hd
    · rename_i hmp; exact map_ok hmp (one_ok he hd hK)
    · cases hd
  | range j m =>
    simp only [opD, o_range] at hd
    simp only [aOp, hv]
    split at hd
    · rename_i hmp
      split at hd
      · rename_i hf; exact map_ok hmp ⟨fresh_ok hf, one_ok he hd hK⟩
      · cases hd
    · cases hd
  | next i =>
    simp only [opD, o_next] at hd
    simp only [aOp, hv]
    split at hd
    · rename_i k m since seen last hit
      split at hd
      · rename_i kb es c hmp
        split at hd
        · cases hd
        · rename_i hbn
          refine it_ok hit (map_ok hmp ⟨hasN_not (by simpa using hbn), ?_⟩)
          unfold nextD at hd
          simp only at hd
          split at hd
          · rename_i hc
            refine ⟨hc, ?_, ?_⟩
            · intro hall
              split at hd
              · simp only [Option.some.injEq] at hd
                subst hd
                exact kok1 hK he
              · rename_i hne
                exfalso
                apply hne
                rw [List.filter_eq_nil_iff]
                intro a ha
                have := List.all_eq_true.1 hall a ha
                rw [this]; simp
            · intro a ha hs
              have hmem : a ∈ es.filter fun e => !(seen.contains e.2.2) := by
                rw [List.mem_filter]; exact ⟨ha, by rw [hs]; rfl⟩
              split at hd
              · rename_i hnil; rw [hnil] at hmem; simp at hmem
              · simp only [Option.some.injEq] at hd
                subst hd
                exact hK ⟨.tup [.b true, .v a.1, a.2.1], E, h.set k (.it m since (seen ++ [a.2.2]) c)⟩ (by rw [List.mem_map]; exact ⟨a, hmem, rfl⟩) e he
          · cases hd
      · cases hd
    · cases hd
  | entry i =>
    simp only [opD, o_entry] at hd
    simp only [aOp, hv]
    split at hd
    · rename_i k m since seen last hit
      split at hd
      · rename_i kb es c hmp
        split at hd
        · rename_i hl
          split at hd
          · rename_i st hst
            split at hd
            · rename_i a ha
              refine it_ok hit (map_ok hmp ⟨hl, ?_⟩)
              show optK seen.getLast? _
              rw [hst]
              simp only [optK, ha, entK]
              exact one_ok he hd hK
            · cases hd
          · cases hd
        · cases hd
      · cases hd
    · cases hd
  | append j sz bytes x y =>
    simp only [opD, o_append] at hd
    simp only [aOp, hv]
    split at hd
    · rename_i sz' new hvw
      split at hd
      · rename_i hc
        refine view_ok hvw ⟨by simpa using hc, ?_⟩
        have hnew : ∀ {id : Nat} {old : List (List V)}, appNewD E id sz bytes h old new = some rs → appNew id sz bytes ⟨e, h, b⟩ old new K := by
          intro id old hn
          unfold appNewD at hn
          split at hn
          · rename_i hq
            simp only [Option.some.injEq] at hn
            subst hn
            exact ⟨hq.1, fresh_ok hq.2, kok1 hK he⟩
          · cases hn
        unfold appD at hd
        show appP fx bn (b + j) sz bytes ⟨e, h, b⟩ (evT E x) new K
        generalize evT E x = v at hd ⊢
        unfold appP
        split at hd
        · rename_i k i n
          unfold appBD at hd
          show appB fx bn k i n sz bytes ⟨e, h, b⟩ new (blk h k) K
          unfold appB
          split at hd
          · rename_i sz0 els hb
            split at hd
            · rename_i hq
              simp only [Option.some.injEq] at hd
              subst hd
              simp only [hb]
              exact ⟨hq.1, ⟨hasN_not hq.2.1, hasN_not hq.2.2⟩, kok1 hK (e' := killE [k] e) (fun i => by rw [get_killE, he, Tr.get_kill])⟩
            · cases hd
          · cases hd
        · exact hnew hd
        · split at hd
          · rename_i hq
            exact ⟨⟨hq.1, by simpa using hq.2⟩, hnew hd⟩
          · cases hd
        · cases hd
      · cases hd
    · cases hd
  | copy sz x y =>
    simp only [opD, o_copy] at hd
    simp only [aOp, hv]
    split at hd
    · rename_i sz' new hvw
      split at hd
      · rename_i hc
        refine view_ok hvw ⟨by simpa using hc, ?_⟩
        unfold copyD at hd
        show copyP bn sz ⟨e, h, b⟩ (evT E x) new K
        generalize evT E x = v at hd ⊢
        unfold copyP
        split at hd
        · rename_i k i n
          split at hd
          · rename_i sz0 els hb
            split at hd
            · rename_i hq
              simp only [Option.some.injEq] at hd
              subst hd
              show copyB bn k i n sz ⟨e, h, b⟩ new (blk h k) K
              rw [hb]
              exact ⟨⟨hq.1, hq.2.1, hasN_not hq.2.2⟩, kok1 hK he⟩
            · cases hd
          · cases hd
        · cases hd
      · cases hd
    · cases hd
  | call f xs =>
    simp only [opD, o_call] at hd
    simp only [aOp, evs_ok he]
    exact callD_ok hcall he hd hK
  | callv f xs =>
    simp only [opD, o_callv] at hd
    simp only [aOp, hv, evs_ok he]
    split at hd
    · rename_i g cs hf
      rw [hf]
      exact callD_ok hcall he hd hK
    · cases hd
  | eqf neg ks x y =>
    simp only [opD, o_eqf] at hd
    simp only [aOp, hv]
    split at hd
    · rename_i xs ys hx hy
      split at hd
      · rename_i t ht
        rw [hx, hy]
        exact eqFsD_ok (K := fun t => K (.b (if neg then !t else t)) ⟨e, h, b⟩) _ t ht (one_ok he hd hK)
      · cases hd
    · cases hd
  | iface _ _ => simp [opD] at hd
  | panic => simp [opD] at hd
  | yld _ _ => simp [opD] at hd
  | bad => simp [opD] at hd
end
end Go.Fx
namespace Go.Fx
open Go.RowKit
mutual
def eqVal : Value → Value → Bool
  | .int k a, .int j b => decide (k = j) && decide (a = b)
  | .bool a, .bool b => decide (a = b)
  | .string a, .string b => a == b
  | .slice none 0 0, .slice none 0 0 => true
  | .pointer none, .pointer none => true
  | .map none, .map none => true
  | .tuple a, .tuple b => a.isEmpty && b.isEmpty
  | _, _ => false
end
theorem eqVal_ok {a b : Value} (h : eqVal a b = true) : a = b := by
  unfold eqVal at h
  split at h <;> first
    | (simp only [Bool.and_eq_true, decide_eq_true_eq] at h; obtain ⟨rfl, rfl⟩ := h; rfl)
    | (simp only [decide_eq_true_eq] at h; subst h; rfl)
    | (rw [MapKept.bytes_beq] at h; subst h; rfl)
    | rfl
    | (simp only [Bool.and_eq_true, Array.isEmpty_iff] at h; obtain ⟨rfl, rfl⟩ := h; rfl)
    | cases h
mutual
def eqV : V → V → Bool
  | .any, .any => true
  | .v a, .v b => eqVal a b
  | .ro s e, .ro t f => Nat.beq s t && eqLL e f
  | .bro s e, .bro t f => Nat.beq s t && eqLL e f
  | .full s e, .full t f => Nat.beq s t && eqLL e f
  | .rp s e i j, .rp t f i' j' => (Nat.beq s t && eqLL e f) && (Nat.beq i i' && Nat.beq j j')
  | .sl a b c, .sl a' b' c' => Nat.beq a a' && Nat.beq b b' && Nat.beq c c'
  | .ptr a b c, .ptr a' b' c' => Nat.beq a a' && Nat.beq b b' && Nat.beq c c'
  | .mp a, .mp b => Nat.beq a b
  | .itr a, .itr b => Nat.beq a b
  | .agg a, .agg b => eqL a b
  | .tup a, .tup b => eqL a b
  | .clo f a, .clo g b => decide (f = g) && eqL a b
  | _, _ => false
def eqL : List V → List V → Bool
  | [], [] => true
  | a :: r, b :: s => eqV a b && eqL r s
  | _, _ => false
def eqLL : List (List V) → List (List V) → Bool
  | [], [] => true
  | a :: r, b :: s => eqL a b && eqLL r s
  | _, _ => false
end
mutual
theorem eqV_ok : ∀ {a b : V}, eqV a b = true → a = b
  | .any, b, h => by cases b <;> simp_all [eqV]
  | .v a, b, h => by cases b <;> simp_all [eqV]; exact eqVal_ok h
  | .ro s e, b, h => by cases b <;> simp_all [eqV]; exact eqLL_ok h.2
  | .bro s e, b, h => by cases b <;> simp_all [eqV]; exact eqLL_ok h.2
  | .full s e, b, h => by cases b <;> simp_all [eqV]; exact eqLL_ok h.2
  | .rp s e i j, b, h => by cases b <;> simp_all [eqV]; exact eqLL_ok h.1.2
  | .sl _ _ _, b, h => by cases b <;> simp_all [eqV]
  | .ptr _ _ _, b, h => by cases b <;> simp_all [eqV]
  | .mp _, b, h => by cases b <;> simp_all [eqV]
  | .itr _, b, h => by cases b <;> simp_all [eqV]
  | .agg a, b, h => by cases b <;> simp_all [eqV]; exact eqL_ok h
  | .tup a, b, h => by cases b <;> simp_all [eqV]; exact eqL_ok h
  | .clo f a, b, h => by cases b <;> simp_all [eqV]; exact eqL_ok h.2
theorem eqL_ok : ∀ {a b : List V}, eqL a b = true → a = b
  | [], b, h => by cases b <;> simp_all [eqL]
  | a :: r, b, h => by
    cases b with
    | nil => simp [eqL] at h
    | cons c s => simp only [eqL, Bool.and_eq_true] at h; rw [eqV_ok h.1, eqL_ok h.2]
theorem eqLL_ok : ∀ {a b : List (List V)}, eqLL a b = true → a = b
  | [], b, h => by cases b <;> simp_all [eqLL]
  | a :: r, b, h => by
    cases b with
    | nil => simp [eqLL] at h
    | cons c s => simp only [eqLL, Bool.and_eq_true] at h; rw [eqL_ok h.1, eqLL_ok h.2]
end
def eqMs : List (Value × V × Nat) → List (Value × V × Nat) → Bool
  | [], [] => true
  | a :: r, b :: s => (eqVal a.1 b.1 && eqV a.2.1 b.2.1 && Nat.beq a.2.2 b.2.2) && eqMs r s
  | _, _ => false
theorem eqMs_ok : ∀ {a b : List (Value × V × Nat)}, eqMs a b = true → a = b
  | [], b, h => by cases b <;> simp_all [eqMs]
  | (k, v, n) :: r, b, h => by
    cases b with
    | nil => simp [eqMs] at h
    | cons c s =>
      obtain ⟨k', v', n'⟩ := c
      simp only [eqMs, Bool.and_eq_true, Nat.beq_eq] at h
      obtain ⟨⟨⟨h1, h2⟩, h3⟩, h4⟩ := h
      rw [eqVal_ok h1, eqV_ok h2, h3, eqMs_ok h4]
def eqNs : List Nat → List Nat → Bool
  | [], [] => true
  | a :: r, b :: s => Nat.beq a b && eqNs r s
  | _, _ => false
theorem eqNs_ok : ∀ {a b : List Nat}, eqNs a b = true → a = b
  | [], b, h => by cases b <;> simp_all [eqNs]
  | a :: r, b, h => by
    cases b with
    | nil => simp [eqNs] at h
    | cons c s => simp only [eqNs, Bool.and_eq_true, Nat.beq_eq] at h; rw [h.1, eqNs_ok h.2]
def eqE : Env → Env → Bool
  | [], [] => true
  | a :: r, b :: s => (Nat.beq a.1 b.1 && eqV a.2 b.2) && eqE r s
  | _, _ => false
theorem eqE_ok : ∀ {a b : Env}, eqE a b = true → a = b
  | [], b, h => by cases b <;> simp_all [eqE]
  | (i, x) :: r, b, h => by
    cases b with
    | nil => simp [eqE] at h
    | cons c s =>
      obtain ⟨j, y⟩ := c
      simp only [eqE, Bool.and_eq_true, Nat.beq_eq] at h
      rw [h.1.1, eqV_ok h.1.2, eqE_ok h.2]
def eqB : Blk → Blk → Bool
  | .rcd t e, .rcd t' e' => decide (t = t') && eqE e e'
  | .dead, .dead => true
  | .arr s e, .arr t f => Nat.beq s t && eqLL e f
  | .arv s e, .arv t f => Nat.beq s t && eqLL e f
  | .var a, .var b => eqL a b
  | .map a c, .map b d => eqMs a b && Nat.beq c d
  | .it m a b c, .it m' a' b' c' => (eqV m m' && Nat.beq a a') && (eqNs b b' && Nat.beq c c')
  | _, _ => false
theorem eqB_ok {a b : Blk} (h : eqB a b = true) : a = b := by
  cases a <;> cases b <;> simp_all [eqB]
  · exact eqLL_ok h.2
  · exact eqL_ok h
  · exact eqLL_ok h.2
  · exact eqMs_ok h.1
  · exact ⟨eqV_ok h.1.1, eqNs_ok h.2.1⟩
  · exact eqE_ok h.2
def Tr.join : Tr → Tr → Tr
  | .lf, _ => .lf
  | _, .lf => .lf
  | .nd v l r, .nd v' l' r' => .nd (if eqV v v' then v else .any) (l.join l') (r.join r')
def joinH : List Blk → List Blk → List Blk
  | b :: r, c :: s => (if eqB b c then b else .dead) :: joinH r s
  | _, _ => []
def deads (h : List Blk) : Nat → List Blk → List Nat
  | _, [] => []
  | i, .dead :: r => i :: deads h (i + 1) r
  | i, _ :: r => deads h (i + 1) r
def Tr.namesT : Tr → List Nat
  | .lf => []
  | .nd v l r => namesV v ++ (l.namesT ++ r.namesT)
def gone (h : List Blk) : List Nat → List Nat
  | [] => []
  | k :: r => if liveB h k then gone h r else k :: gone h r
def Tr.wf (h : List Blk) : Tr → Bool
  | .lf => true
  | .nd v l r => wfVB h v && (l.wf h && r.wf h)
def leTB : Tr → Tr → Bool
  | _, .lf => true
  | .nd v l r, .nd v' l' r' => ((match v' with | .any => true | _ => eqV v v') && leTB l l') && leTB r r'
  | .lf, .nd v' l' r' => ((match v' with | .any => true | _ => false) && leTB .lf l') && leTB .lf r'
def leVsB : List V → List V → Bool
  | [], [] => true
  | x :: xs, y :: ys => (match y with | .any => true | _ => eqV x y) && leVsB xs ys
  | _, _ => false
def leBB (b c : Blk) : Bool :=
  match c with
  | .dead => true
  | .var ys => match b with
    | .var xs => leVsB xs ys
    | _ => false
  | c => eqB b c
def leHB : List Blk → List Blk → Bool
  | _, [] => true
  | b :: h, c :: p => leBB b c && leHB h p
  | [], _ :: _ => false
abbrev Pt := Tr × List Blk
def Tr.toEnv : Tr → Env
  | .lf => []
  | .nd v l r => (0, v) :: (l.toEnv.map (fun p => (2 * p.1 + 1, p.2)) ++ r.toEnv.map (fun p => (2 * p.1 + 2, p.2)))
def joinD (fx : List Nat) (outs : List Pt) : Option (List Pt) :=
  match outs with
  | [] => some []
  | [p] => some [p]
  | p :: r =>
    let E := r.foldl (fun E q => E.join q.1) p.1
    let h := r.foldl (fun h q => joinH h q.2) p.2
    let M := gone h (E.namesT ++ (h.map namesB).flatten)
    let E' := E.kill M
    let h' := h.map (killB M)
    if (outs.all fun q => leTB q.1 E' && leHB q.2 h') && (keepB h' fx && (E'.wf h' && wfBB h' h')) then some [(E', h')] else none
inductive Out where
  | normal (p : Pt)
  | exit (j : Nat) (p : Pt)
  | ret (p : Pt)
def goL {α β : Type} (f : α → Option (List β)) : List α → Option (List β)
  | [] => some []
  | [x] => f x
  | x :: r => match f x, goL f r with
    | some a, some b => some (a ++ b)
    | _, _ => none
def bindL {α β : Type} (l : Option (List α)) (f : α → Option (List β)) : Option (List β) :=
  match l with
  | none => none
  | some xs => goL f xs
def putT (E : Tr) (d : Option Nat) (x : V) : Tr :=
  match d with
  | none => E
  | some d => forceV x fun x => Tr.put (d + 1) E d x
mutual
def renK (g : Nat → Option Nat) : V → V
  | .sl k i n => match g k with
    | some j => .sl j i n
    | none => .any
  | .ptr k i f => match g k with
    | some j => .ptr j i f
    | none => .any
  | .mp k => match g k with
    | some j => .mp j
    | none => .any
  | .itr k => match g k with
    | some j => .itr j
    | none => .any
  | .agg cs => .agg (rensK g cs)
  | .tup cs => .tup (rensK g cs)
  | .clo f cs => .clo f (rensK g cs)
  | x => x
def rensK (g : Nat → Option Nat) : List V → List V
  | [] => []
  | x :: r => renK g x :: rensK g r
end
def renEK (g : Nat → Option Nat) : Env → Env
  | [] => []
  | (j, x) :: r => (j, renK g x) :: renEK g r
def renBK (g : Nat → Option Nat) : Blk → Blk
  | .rcd t e => .rcd t (renEK g e)
  | .var cs => .var (rensK g cs)
  | .arv sz els => .arv sz (els.map (rensK g))
  | .map es c => .map (es.map fun e => (e.1, renK g e.2.1, e.2.2)) c
  | .it m s sn l => .it (renK g m) s sn l
  | b => b
def Tr.ren (g : Nat → Option Nat) : Tr → Tr
  | .lf => .lf
  | .nd v l r => .nd (renK g v) (l.ren g) (r.ren g)
def keepN (n : Nat) (h : List Blk) (names : List Nat) : List Nat :=
  List.range n ++ (reach h 5000 (names ++ List.range n) []).filter fun k => !(Nat.blt k n)
def numB (L : List Nat) (h : List Blk) (n : Nat) : Bool :=
  nodupB L && (L.all fun k => Nat.blt k h.length) && Nat.ble n h.length
def gcK (fx : List Nat) (n : Nat) (p : Pt) (L : List Nat) : Option Pt :=
  let h := L.map fun k => renBK (pos L) (blk p.2 k)
  if numB L p.2 n && keepB h fx then some (p.1.ren (pos L), h) else none
def gcD (fx : List Nat) (n : Nat) (p : Pt) : Option Pt :=
  match Nat.blt p.2.length (n + 40) with
  | true => some p
  | false => gcK fx n p (keepN n p.2 p.1.namesT)
section
variable (call : CallD) (mvf : FuncId → Option Nat) (fx : List Nat)
def runD (bn : List Nat) (o : LOper) (b : Nat) (p : Pt) : Option (List Pt) :=
  match opD call mvf fx bn o.op p.1 p.2 b with
  | none => none
  | some rs => some (rs.map fun r => (putT r.E o.dst r.x, r.h))
def operD (bn : List Nat) (o : LOper) (b : Nat) (p : Pt) : Option (List Pt) :=
  match o.g with
  | none => runD call mvf fx bn o b p
  | some (g, want) => match p.1.get g with
    | .v (.bool t) => if t = want then runD call mvf fx bn o b p else some [(putT p.1 o.dst (.v (.tuple #[])), p.2)]
    | .v (.tuple _) => some [(putT p.1 o.dst (.v (.tuple #[])), p.2)]
    | _ => none
def opsD (b : Nat) : List LOper → Pt → Option (List Pt)
  | [], p => some [p]
  | o :: r, p => bindL (operD call mvf fx [] o b p) (opsD b r)
def rdT (o : LOp) (E : Tr) (bn : List Nat) : List Nat :=
  match o with
  | .load _ a => match evT E a with
    | .ptr k _ _ => k :: bn
    | _ => bn
  | _ => bn
def planD (b : Nat) : LPlan → List Nat → Pt → Option (List Pt)
  | .done, _, p => some [p]
  | .take _ _ o q, bn, p => bindL (operD call mvf fx [] o b p) (planD b q (rdT o.op p.1 bn))
  | .alt _ o r q q', bn, p => match bindL (operD call mvf fx (if r then bn else []) o b p) (planD b q (if r then bn else [])), planD b q' bn p with
    | some x, some y => some (x ++ y)
    | _, _ => none
  | .none, _, _ => some []
def yldD (y : Nat → YtD) (d : Option Nat) (f : Operand) (xs : List Operand) (p : Pt) : Option (List Pt) :=
  match evT p.1 f with
  | .itr k => match y k (xs.map (evT p.1)) p with
    | some rs => some (rs.map fun r => (putT r.2.1 d r.1, r.2.2))
    | none => none
  | _ => none
def operYD (y : Nat → YtD) (o : LOper) (b : Nat) (p : Pt) : Option (List Pt) :=
  match o.op with
  | .yld f xs => match o.g with
    | none => yldD y o.dst f xs p
    | some (g, want) => match p.1.get g with
      | .v (.bool t) => if t = want then yldD y o.dst f xs p else some [(putT p.1 o.dst (.v (.tuple #[])), p.2)]
      | .v (.tuple _) => some [(putT p.1 o.dst (.v (.tuple #[])), p.2)]
      | _ => none
  | _ => operD call mvf fx [] o b p
def opsYD (y : Nat → YtD) (b : Nat) : List LOper → Pt → Option (List Pt)
  | [], p => some [p]
  | o :: r, p => bindL (operYD call mvf fx y o b p) (opsYD y b r)
end
def norms : List Out → List Pt
  | [] => []
  | .normal p :: r => p :: norms r
  | _ :: r => norms r
def others : List Out → List Out
  | [] => []
  | .normal _ :: r => others r
  | o :: r => o :: others r
def andD (l : Option (List Out)) (f : Pt → Option (List Out)) : Option (List Out) :=
  bindL l fun o => match o with
    | .normal p => f p
    | o => some [o]
def leave (id : Nat) : Out → Out
  | .exit j p => if j = id then .normal p else .exit j p
  | o => o
def blockD (fx : List Nat) (id : Nat) (l : Option (List Out)) : Option (List Out) :=
  match l with
  | none => none
  | some outs => match joinD fx (norms (outs.map (leave id))) with
    | none => none
    | some ps => some (ps.map .normal ++ others (outs.map (leave id)))
def loopD (fx : List Nat) (n0 : Nat) (f : Pt → Option (List Out)) : Nat → Pt → Option (List Out)
  | 0, _ => none
  | n + 1, p => match gcD fx n0 p with
    | some p => andD (f p) (loopD fx n0 f n)
    | none => none
def roomD (n : Nat) (h : List Blk) : List Blk :=
  match n with
  | 0 => h
  | n + 1 => h ++ List.replicate (n + 1) .dead
def ofEnv : Env → Tr
  | [] => .lf
  | (i, x) :: r => forceNat i fun i => putT (ofEnv r) (some i) x
def setPsT : List Nat → List V → Tr → Tr
  | p :: ps, x :: xs, E => setPsT ps xs (putT E (some p) x)
  | _, _, E => E
def inRdB (rk : Option Nat) (h : List Blk) : Bool :=
  match rk with
  | none => true
  | some k => match h[k]? with
    | some (.rcd .busy _) => true
    | _ => false
def begRdD (k : Nat) (f : Pt → Option (List Out)) (o : Out) : Option (List Out) :=
  match o with
  | .normal q => match q.2[k]? with
    | some (.rcd .ready e) => f (q.1, q.2.set k (.rcd .busy e))
    | _ => none
  | _ => none
def endRdD (k kE : Nat) (b : Bool) (t : RS) (q : Pt) : Option (List (V × Pt)) :=
  match q.2[k]? with
  | some (.rcd .busy e2) => match q.2[kE]? with
    | some (.rcd .ghost eI) => some [(.b b, ofEnv eI, (q.2.set k (.rcd t e2)).set kE .dead)]
    | _ => none
  | _ => none
def outRdD (k kE : Nat) (o : Out) : Option (List (V × Pt)) :=
  match o with
  | .normal q => endRdD k kE true .ready q
  | .exit j q => endRdD k kE false (.out (some j)) q
  | .ret q => endRdD k kE false (.out none) q
def rndD (k : Nat) (ps : List Nat) (fa fb : Nat → Pt → Option (List Out)) (xs : List V) (p : Pt) : Option (List (V × Pt)) :=
  match p.2[k]? with
  | some (.rcd .ready e) => if xs.length = ps.length then
      bindL (bindL (fa p.2.length (setPsT ps xs (ofEnv e), p.2 ++ [.rcd .ghost p.1.toEnv])) (begRdD k (fb p.2.length))) (outRdD k p.2.length)
    else none
  | _ => none
def endLpD (k : Nat) (h : List Blk) : Option (List Out) :=
  match h[k]? with
  | some (.rcd t e) => if wfEB (h.set k .dead) e && wfBB (h.set k .dead) (h.set k .dead) then match t with
      | .ready => some [.normal (ofEnv e, h.set k .dead)]
      | .out none => some [.ret (ofEnv e, h.set k .dead)]
      | .out (some j) => some [.exit j (ofEnv e, h.set k .dead)]
      | _ => none
    else none
  | _ => none
section
variable (call : CallD) (mvf : FuncId → Option Nat) (iter : ItD)
def cw : LCode → List Nat → Nat → (Nat → YtD) → Option Nat → Pt → Option (List Out)
  | .skip, _, _, _, _, p => some [.normal p]
  | .reg n ops, fx, _, _, _, p => (opsD call mvf fx p.2.length ops (p.1, roomD n p.2)).map (·.map .normal)
  | .tail _ n ops, fx, _, _, _, p => (opsD call mvf fx p.2.length ops (p.1, roomD n p.2)).map (·.map .normal)
  | .qui n ops, fx, _, _, _, p => (opsD call mvf fx p.2.length ops (p.1, roomD n p.2)).map (·.map .normal)
  | .yreg _ n ops, fx, _, y, _, p => (opsYD call mvf fx y p.2.length ops (p.1, roomD n p.2)).map (·.map .normal)
  | .tree n q, fx, _, _, _, p => match planD call mvf fx p.2.length q [] (p.1, roomD n p.2) with
    | none => none
    | some ps => (joinD fx ps).map (·.map .normal)
  | .seq a b, fx, n0, y, rk, p => andD (cw a fx n0 y rk p) (cw b fx n0 y rk)
  | .cond c a b, fx, n0, y, rk, p => match evT p.1 c with
    | .v (.bool true) => cw a fx n0 y rk p
    | .v (.bool false) => cw b fx n0 y rk p
    | _ => none
  | .block id c, fx, n0, y, rk, p => blockD fx id (cw c fx n0 y rk p)
  | .loop c, fx, n0, y, rk, p => loopD fx n0 (cw c fx n0 y rk) 3000 p
  | .exit j, _, _, _, _, p => some [.exit j p]
  | .ret, _, _, _, _, p => some [.ret p]
  | .bad, _, _, _, _, _ => none
  | .frz xs c, fx, n0, y, rk, p => match frzD fx xs p with
    | some p => cw c fx n0 y rk p
    | none => none
  | .rfn g ps asg body, fx, _, _, rk, p => match evT p.1 g with
    | .clo gf caps => if inRdB rk p.2 then
        forceNat p.2.length fun k => bindL (iter gf (.itr k :: caps) (k :: fx) k
          (rndD k ps (fun kE => cw asg (kE :: k :: fx) (kE + 1) (fun _ _ _ => none) (some k)) (fun kE => cw body (kE :: k :: fx) (kE + 1) (fun _ _ _ => none) (some k)))
          (p.2 ++ [.rcd .ready p.1.toEnv])) (endLpD k)
      else none
    | _ => none
end
def resD (p : Pt) : List LRes → Option (List V)
  | [] => some []
  | .tmp t :: r => match resD p r with
    | some xs => some (p.1.get t :: xs)
    | none => none
  | .cell a n :: r => match loadD p.2 n (p.1.get a), resD p r with
    | some x, some xs => some (x :: xs)
    | _, _ => none
def argsT : Nat → List V → Tr → Tr
  | _, [], E => E
  | i, x :: r, E => argsT (i + 1) r (putT E (some i) x)
def finD (fx : List Nat) (n : Nat) (rs : List LRes) (p : Pt) : Option (V × List Blk) :=
  match resD p rs with
  | none => none
  | some xs =>
    let L := keepN n p.2 (namesL xs)
    let h := L.map fun k => renBK (pos L) (blk p.2 k)
    if numB L p.2 n && keepB h fx then some (renK (pos L) (tupV xs), h) else none
def endD (fx : List Nat) (n : Nat) (rs : List LRes) (outs : List Out) : Option (V × List Blk) :=
  match outs with
  | [.normal p] => finD fx n rs p
  | [.ret p] => finD fx n rs p
  | _ => none
structure Memo where
  f : FuncId
  zas : List V
  h0 : List Blk
  r : V
  h : List Blk
def eqBs : List Blk → List Blk → Bool
  | [], [] => true
  | a :: r, b :: s => eqB a b && eqBs r s
  | _, _ => false
theorem eqBs_ok : ∀ {a b : List Blk}, eqBs a b = true → a = b
  | [], b, h => by cases b <;> simp_all [eqBs]
  | a :: r, b, h => by
    cases b with
    | nil => simp [eqBs] at h
    | cons c s => simp only [eqBs, Bool.and_eq_true] at h; rw [eqB_ok h.1, eqBs_ok h.2]
def findM (f : FuncId) (zas : List V) (h0 : List Blk) : List Memo → Option (V × List Blk)
  | [] => none
  | m :: r => if Nat.beq m.f f && (eqL m.zas zas && eqBs m.h0 h0) then some (m.r, m.h) else findM f zas h0 r
def bodyD (call : CallD) (mvf : FuncId → Option Nat) (iter : ItD) (en : Ent) (zas : List V) (h0 : List Blk) (mv fx : List Nat) : Option (V × List Blk) :=
  if decide (zas.length ≤ en.nt) && keepB h0 fx then
    match cw call mvf iter en.code fx h0.length (fun _ _ _ => none) none (argsT 0 zas .lf, h0) with
    | some outs => endD fx h0.length en.rs outs
    | none => none
  else none
def heapsD : List Out → Option (List (List Blk))
  | [] => some []
  | o :: r => match o, heapsD r with
    | .normal p, some l => some (p.2 :: l)
    | .ret p, some l => some (p.2 :: l)
    | _, _ => none
def ibodyD (call : CallD) (mvf : FuncId → Option Nat) (iter : ItD) (en : Ent) (zas : List V) (fx : List Nat) (k : Nat) (y : YtD) (h : List Blk) : Option (List (List Blk)) :=
  if (decide (zas.length ≤ en.nt) && en.rs.isEmpty) && (keepB h fx && fx.all fun j => Nat.blt j h.length) then
    match cw call mvf iter en.code fx h.length (fun k' => if Nat.beq k' k then y else fun _ _ => none) none (argsT 0 zas .lf, h) with
    | some outs => heapsD outs
    | none => none
  else none
def mvT (T : List (Option Ent)) (g : FuncId) : Option Nat :=
  match T[g]? with
  | some (some e) => e.mv
  | _ => none
def fiD (T : List (Option Ent)) (M : List Memo) : Nat → CallD × ItD
  | 0 => (fun _ _ _ _ => none, fun _ _ _ _ _ _ => none)
  | d + 1 => (fun f zas h0 mv => match (if mv.isEmpty then findM f zas h0 M else none) with
      | some x => some x
      | none => match T[f]? with
        | some (some en) => bodyD (fiD T M d).1 (mvT T) (fiD T M d).2 en zas h0 mv ((List.range h0.length).filter fun k => !(hasN mv k))
        | _ => none,
    fun f zas fx k y h => match T[f]? with
      | some (some en) => ibodyD (fiD T M d).1 (mvT T) (fiD T M d).2 en zas fx k y h
      | _ => none)
def fnD (T : List (Option Ent)) (M : List Memo) (d : Nat) : CallD := (fiD T M d).1
def givesB (x : Option (V × List Blk)) (r : V) (h : List Blk) : Bool :=
  match x with
  | some (r', h') => eqV r' r && eqBs h' h
  | none => false
theorem givesB_ok {x : Option (V × List Blk)} {r : V} {h : List Blk} (hx : givesB x r h = true) : x = some (r, h) := by
  unfold givesB at hx
  split at hx
  · simp only [Bool.and_eq_true] at hx
    rw [eqV_ok hx.1, eqBs_ok hx.2]
  · cases hx
end Go.Fx
